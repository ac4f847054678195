import Derived.Test.YtjeeldacnllipaaGreatLoC
import Derived.Test.YtjeeldacnllipaaGreatLoA
import Derived.Test.YtjeeldacnllipaaGreatLoO
import Derived.Test.YtjeeldacnllipaaGreatLoWalk
import Derived.Test.YtjeeldacnllipaaGreatLoField
import Derived.Test.YtjeeldacnllipaaGreatLoConfLevel
import Derived.Test.YtjeeldacnllipaaGreatLoWords
import Derived.Test.YtjeeldacnllipaaGreatLoMachS
import Derived.Test.YtjeeldacnllipaaGreatLoB
namespace Go.Proofs.YtjeeldacnllipaaGreat
set_option linter.unusedVariables false
set_option linter.unusedSimpArgs false
set_option linter.unnecessarySimpa false
open List renaming getElem_toArray → qA, getElem_cons_succ → qB, getElem_cons_zero → qC, setIfInBounds_toArray → qD, set_cons_zero → qE, set_cons_succ → qF
section
open Go.RowKit
def chainP (lk : Nat → Nat) : Nat → List Nat → Prop
 | s, [] => s = 0
 | s, x :: r => s = x ∧ 1 ≤ x ∧ chainP lk (lk x) r
theorem chainP_congr {lk lk' : Nat → Nat} : ∀ (L : List Nat) (s : Nat), chainP lk s L → (∀ x ∈ L, lk' x = lk x) → chainP lk' s L
 | [], _, h, _ => h
 | x :: r, s, h, hx => ⟨h.1, h.2.1, by rw [hx x List.mem_cons_self]; exact chainP_congr r _ h.2.2 fun y hy => hx y (List.mem_cons_of_mem _ hy)⟩
theorem mkTop_eq (a n : Nat) : mkTop a n = 256 * (n % 72057594037927936) + a % 256 := by
 unfold mkTop setN cutN
 have h1 : a / 2 ^ 0 % 2 ^ 8 / 2 ^ (8 + 56) = 0 := Nat.div_eq_of_lt (by omega)
 rw [h1]
 omega
theorem mkHead_eq (g st : Nat) : mkHead g st = 4 * (g % 4294967296) + st % 4 := by
 unfold mkHead setN cutN
 have h1 : st / 2 ^ 0 % 2 ^ 2 / 2 ^ (2 + 32) = 0 := Nat.div_eq_of_lt (by omega)
 rw [h1]
 omega
theorem slOf_eq (x : Nat) : slOf x = x % 256 := by unfold slOf cutN; omega
theorem cnt_eq (x : Nat) : cnt x = x / 256 % 72057594037927936 := by unfold cnt cutN; omega
theorem genOf_eq (x : Nat) : genOf x = x / 4 % 4294967296 := by unfold genOf cutN; omega
theorem sl_top {a n : Nat} (h : a < 256) : slOf (mkTop a n) = a := by rw [slOf_eq, mkTop_eq]; omega
theorem cnt_top {a n : Nat} (h : n < 1000000) : cnt (mkTop a n) = n := by rw [cnt_eq, mkTop_eq]; omega
theorem top_lt (a n : Nat) : mkTop a n < 18446744073709551616 := by rw [mkTop_eq]; omega
theorem gen_head {g st : Nat} (h : g < 1000000) : genOf (mkHead g st) = g := by rw [genOf_eq, mkHead_eq]; omega
theorem head_lt (g st : Nat) : mkHead g st < 17179869184 := by rw [mkHead_eq]; omega
theorem head_st (g : Nat) : mkHead g 0 % 4 = 0 := by rw [mkHead_eq]; omega
def Past (top r : Nat) : Prop := cnt r ≤ cnt top ∧ (cnt r = cnt top → r = top)
theorem Past.refl (x : Nat) : Past x x := ⟨Nat.le_refl _, fun _ => rfl⟩
/-- A thread within a routine. Owners: 1 free, (2, j) had, (3, t) being taken, (4, t) being given, (5, t) given back and not yet free, 0 none. -/
structure ThrI (S : Nat) (V : LvG) (ow : Nat → Nat × Nat) (t : Nat) (F : StF) : Prop where
 fn : F.fn = 1 ∨ F.fn = 2
 r1 : F.r1 < 18446744073709551616
 past : (F.fn = 1 ∧ (F.pc = 1 ∨ F.pc = 2)) ∨ (F.fn = 2 ∧ (F.pc = 8 ∨ F.pc = 9)) → Past V.top F.r1 ∧ slOf F.r1 ≤ S
 tk : F.fn = 1 → F.pc ≤ 3
 gv : F.fn = 2 → F.pc ≤ 9
 tk2 : F.fn = 1 → F.pc = 2 → 1 ≤ slOf F.r1 ∧ F.r2 ≤ S ∧ (V.top = F.r1 → F.r2 = V.lk (slOf F.r1))
 tk3 : F.fn = 1 → F.pc = 3 → 1 ≤ slOf F.r1 ∧ slOf F.r1 ≤ S ∧ ow (slOf F.r1) = (3, t)
 r0 : F.fn = 2 → 1 ≤ F.r0 ∧ F.r0 ≤ S ∧ ow F.r0 = (if F.pc ≤ 6 then 4 else 5, t)
 gen : F.fn = 2 → 1 ≤ F.pc → F.pc ≤ 6 → F.r2 = genOf (V.hd F.r0) + 1
 lk9 : F.fn = 2 → F.pc = 9 → V.lk F.r0 = slOf F.r1
structure LvI (S gens n : Nat) (V : LvG) (ow : Nat → Nat × Nat) (L : List Nat) : Prop where
 chain : chainP V.lk (slOf V.top) L
 nodup : L.Nodup
 mem : ∀ x, x ∈ L ↔ 1 ≤ x ∧ x ≤ S ∧ (ow x).1 = 1
 top : V.top < 18446744073709551616
 cntN : cnt V.top ≤ n
 lk : ∀ i, 1 ≤ i → i ≤ S → V.lk i ≤ S
 hd : ∀ i, 1 ≤ i → i ≤ S → V.hd i < 17179869184 ∧ genOf (V.hd i) ≤ n
 on : ∀ i, 1 ≤ i → i ≤ S → (ow i).1 = 2 ∨ (ow i).1 = 3 ∨ (ow i).1 = 4 → V.held i = true
 off : ∀ i, 1 ≤ i → i ≤ S → (ow i).1 = 1 ∨ (ow i).1 = 5 → V.held i = false ∧ V.hd i % 4 = 0 ∧ genOf (V.hd i) < gens
 none : ∀ i, 1 ≤ i → i ≤ S → (ow i).1 = 0 → V.held i = true ∨ gens ≤ genOf (V.hd i)
 code : ∀ i, 1 ≤ i → i ≤ S → (ow i).1 ≤ 5
structure EvI (S : Nat) (V : LvG) (ow : Nat → Nat × Nat) (ev : List (Nat × Nat)) : Prop where
 all : ∀ x gn, (x, gn) ∈ ev → 1 ≤ x ∧ x ≤ S ∧ gn ≤ genOf (V.hd x) ∧ ((ow x).1 = 1 ∨ (ow x).1 = 3 ∨ (ow x).1 = 5 → gn < genOf (V.hd x))
structure HadI (S : Nat) (ow : Nat → Nat × Nat) (j : Nat) (had : List Nat) : Prop where
 nodup : had.Nodup
 all : ∀ x ∈ had, 1 ≤ x ∧ x ≤ S ∧ ow x = (2, j)
structure GInv (S gens NL T : Nat) (lev hl : Nat → Nat) (n : Nat) (g : StG) (L : Nat → List Nat) (ow : Nat → Nat → Nat × Nat) (had : Nat → List Nat) (ev : Nat → List (Nat × Nat)) : Prop where
 lv : ∀ l, l < NL → LvI S gens n (g.lv l) (ow l) (L l)
 thr : ∀ t, t < T → ∀ F, g.thr t = some F → ThrI S (g.lv (lev t)) (ow (lev t)) t F
 had : ∀ j, HadI S (ow (hl j)) j (had j)
 ev : ∀ l, l < NL → EvI S (g.lv l) (ow l) (ev l)
section
variable {S gens NL T n : Nat} {lev hl : Nat → Nat} {g g2 : StG} {L : Nat → List Nat} {ow : Nat → Nat → Nat × Nat} {had : Nat → List Nat} {ev : Nat → List (Nat × Nat)} {t l : Nat} {F F2 : StF} {V V2 : LvG} {o o2 : Nat → Nat × Nat}
theorem LvI.mono {L : List Nat} (h : LvI S gens n V o L) : LvI S gens (n + 1) V o L :=
 ⟨h.chain, h.nodup, h.mem, h.top, Nat.le_succ_of_le h.cntN, h.lk, fun i a b => ⟨(h.hd i a b).1, Nat.le_succ_of_le (h.hd i a b).2⟩, h.on, h.off, h.none, h.code⟩
theorem LvI.first {L : List Nat} (h : LvI S gens n V o L) : slOf V.top ≤ S ∧ (slOf V.top = 0 → L = []) ∧ (slOf V.top ≠ 0 → ∃ r, L = slOf V.top :: r) := by
 have hc := h.chain
 cases hL : L with
 | nil => rw [hL] at hc; have e : slOf V.top = 0 := hc; rw [e]; exact ⟨Nat.zero_le _, fun _ => rfl, fun h => absurd rfl h⟩
 | cons x r =>
  rw [hL] at hc
  obtain ⟨e, e1, _⟩ := hc
  have hx := (h.mem x).1 (by rw [hL]; exact List.mem_cons_self)
  rw [e]
  exact ⟨hx.2.1, fun e2 => by omega, fun _ => ⟨r, rfl⟩⟩
/-- Another thread's step. -/
theorem ThrI.frame {t' x : Nat} (h : ThrI S V o t' F) (c1 : V2.top = V.top ∨ cnt V2.top = cnt V.top + 1) (c2 : ∀ i, i ≠ x → V2.lk i = V.lk i ∧ V2.hd i = V.hd i ∧ o2 i = o i) (c3 : ∀ k, 3 ≤ k → o x ≠ (k, t')) (c4 : V2.top = V.top → slOf V.top ≠ x ∨ V2.lk x = V.lk x) : ThrI S V2 o2 t' F := by
 have hr0 : F.fn = 2 → F.r0 ≠ x := fun h2 e => by
  have := (h.r0 h2).2.2
  rw [e] at this
  split at this
  ·exact c3 4 (by omega) this
  ·exact c3 5 (by omega) this
 refine ⟨h.fn, h.r1, fun hp => ⟨?_, (h.past hp).2⟩, h.tk, h.gv, fun h1 h2 => ?_, fun h1 h2 => ?_, fun h1 => ?_, fun h1 h2 h3 => ?_, fun h1 h2 => ?_⟩
 ·obtain ⟨a, b⟩ := (h.past hp).1
  rcases c1 with e | e
  ·rw [e]; exact ⟨a, b⟩
  ·exact ⟨by omega, fun e2 => by omega⟩
 ·obtain ⟨a, b, d⟩ := h.tk2 h1 h2
  refine ⟨a, b, fun e => ?_⟩
  have hp := (h.past (.inl ⟨h1, .inr h2⟩)).1
  rcases c1 with e1 | e1
  ·rw [d (by rw [← e1]; exact e)]
   by_cases hx : slOf F.r1 = x
   ·rcases c4 e1 with h4 | h4
    ·exact absurd (by rw [← e1, e]; exact hx) h4
    ·rw [hx, h4]
   ·exact ((c2 _ hx).1).symm
  ·rw [e] at e1
   have := hp.1
   omega
 ·obtain ⟨a, b, d⟩ := h.tk3 h1 h2
  exact ⟨a, b, by rw [(c2 _ fun e => c3 3 (by omega) (by rw [← e]; exact d)).2.2]; exact d⟩
 ·obtain ⟨a, b, d⟩ := h.r0 h1
  exact ⟨a, b, by rw [(c2 _ (hr0 h1)).2.2]; exact d⟩
 ·rw [(c2 _ (hr0 h1)).2.1]; exact h.gen h1 h2 h3
 ·rw [(c2 _ (hr0 h1)).1]; exact h.lk9 h1 h2
/-- A step at level l: what is to be shown. -/
theorem GInv.upd (h : GInv S gens NL T lev hl n g L ow had ev) (hl0 : lev t < NL) {x : Nat} {L2 : List Nat} {had2 : Nat → List Nat} {ev2 : List (Nat × Nat)} {Fo : Option StF}
  (e1 : g2.lv = put1 g.lv (lev t) V2) (e2 : g2.thr = put1 g.thr t Fo)
  (c1 : V2.top = (g.lv (lev t)).top ∨ cnt V2.top = cnt (g.lv (lev t)).top + 1) (c2 : ∀ i, i ≠ x → V2.lk i = (g.lv (lev t)).lk i ∧ V2.hd i = (g.lv (lev t)).hd i ∧ o2 i = ow (lev t) i) (c3 : ∀ k t', 3 ≤ k → t' ≠ t → ow (lev t) x ≠ (k, t')) (c4 : V2.top = (g.lv (lev t)).top → slOf (g.lv (lev t)).top ≠ x ∨ V2.lk x = (g.lv (lev t)).lk x)
  (hL : LvI S gens (n + 1) V2 o2 L2) (hF : ∀ F, Fo = some F → ThrI S V2 o2 t F) (hH : ∀ j, hl j = lev t → HadI S o2 j (had2 j)) (hH2 : ∀ j, hl j ≠ lev t → had2 j = had j) (hE : EvI S V2 o2 ev2) :
  GInv S gens NL T lev hl (n + 1) g2 (put1 L (lev t) L2) (put1 ow (lev t) o2) had2 (put1 ev (lev t) ev2) := by
 refine ⟨fun l hl => ?_, fun t' ht' F hF' => ?_, fun j => ?_, fun l hl => ?_⟩
 ·rw [e1]
  by_cases e : l = lev t
  ·subst e; rw [put1_same, put1_same, put1_same]; exact hL
  ·rw [put1_ne e, put1_ne e, put1_ne e]; exact (h.lv l hl).mono
 ·rw [e1]
  rw [e2] at hF'
  by_cases e : t' = t
  ·subst e
   rw [put1_same] at hF'
   rw [put1_same, put1_same]
   exact hF F hF'
  ·rw [put1_ne e] at hF'
   have h0 := h.thr t' ht' F hF'
   by_cases e3 : lev t' = lev t
   ·rw [e3, put1_same, put1_same]
    rw [e3] at h0
    exact h0.frame c1 c2 (fun k hk => c3 k t' hk e) c4
   ·rw [put1_ne e3, put1_ne e3]; exact h0
 ·by_cases e : hl j = lev t
  ·rw [e, put1_same]; exact hH j e
  ·rw [put1_ne e, hH2 j e]; exact h.had j
 ·rw [e1]
  by_cases e : l = lev t
  ·subst e; rw [put1_same, put1_same, put1_same]; exact hE
  ·rw [put1_ne e, put1_ne e, put1_ne e]; exact h.ev l hl
/-- A step that changes the thread alone. -/
theorem GInv.same (h : GInv S gens NL T lev hl n g L ow had ev) {Fo : Option StF} (e1 : g2.lv = g.lv) (e2 : g2.thr = put1 g.thr t Fo) (hF : ∀ F, Fo = some F → ThrI S (g.lv (lev t)) (ow (lev t)) t F) : GInv S gens NL T lev hl (n + 1) g2 L ow had ev := by
 refine ⟨fun l hl => by rw [e1]; exact (h.lv l hl).mono, fun t' ht' F hF' => ?_, h.had, fun l hl => by rw [e1]; exact h.ev l hl⟩
 rw [e1]
 rw [e2] at hF'
 by_cases e : t' = t
 ·subst e; rw [put1_same] at hF'; exact hF F hF'
 ·rw [put1_ne e] at hF'; exact h.thr t' ht' F hF'
theorem EvI.keep {ev : List (Nat × Nat)} (h : EvI S V o ev) (hh : ∀ i, V2.hd i = V.hd i) (ho : ∀ i, 1 ≤ i → i ≤ S → (o2 i).1 = 1 ∨ (o2 i).1 = 3 ∨ (o2 i).1 = 5 → (o i).1 = 1 ∨ (o i).1 = 3 ∨ (o i).1 = 5) : EvI S V2 o2 ev :=
 ⟨fun x gn hx => by
  obtain ⟨a, b, d, e⟩ := h.all x gn hx
  rw [hh]
  exact ⟨a, b, d, fun he => e (ho x a b he)⟩⟩
theorem HadI.keep {j x : Nat} {hd : List Nat} (h : HadI S o j hd) (h1 : ∀ i, i ≠ x → o2 i = o i) (hx : (o x).1 ≠ 2) : HadI S o2 j hd :=
 ⟨h.nodup, fun y hy => by
  obtain ⟨a, b, d⟩ := h.all y hy
  exact ⟨a, b, by rw [h1 y fun e => hx (by rw [← e, d])]; exact d⟩⟩
end
end
section
open Go.RowKit
/-- From state to state, so many steps, thread t within more than d frames ahead of each. -/
def Steps (D : Nat → GM → GM → Prop) (t d : Nat) : Nat → Nat → GM → GM → Prop
 | _, 0, g, g' => g' = g
 | n, k + 1, g, g' => ∃ g1, D n g g1 ∧ d < (g.thr t).length ∧ (g.thr t).length < 1000 ∧ Steps D t d (n + 1) k g1 g'
section
variable {D : Nat → GM → GM → Prop} {t d n a b k : Nat} {g g1 g2 : GM}
theorem Steps.cons (hD : D n g g1) (h1 : d < (g.thr t).length) (h2 : (g.thr t).length < 1000) (h : Steps D t d (n + 1) k g1 g2) : Steps D t d n (k + 1) g g2 := ⟨g1, hD, h1, h2, h⟩
theorem Steps.trans : ∀ {a n : Nat} {g : GM}, Steps D t d n a g g1 → Steps D t d (n + a) b g1 g2 → Steps D t d n (a + b) g g2
 | 0, n, g, h, h2 => by
  have e : g1 = g := h
  subst e
  rw [Nat.zero_add]; exact h2
 | a + 1, n, g, h, h2 => by
  obtain ⟨g', hD, h3, h4, h5⟩ := h
  rw [show a + 1 + b = a + b + 1 by omega]
  exact ⟨g', hD, h3, h4, h5.trans (by rw [show n + 1 + a = n + (a + 1) by omega]; exact h2)⟩
end
/-- Alone tells how many steps there were. -/
theorem Steps.alone {do_ : FuncId} {σ w : World} {K M : Mm} {lab : Nat → Nat} {p t q n l k most fn : Nat} {c : Nat → Int} {tp : List Nat} {s : MachS} {g g2 : GM} {us : List Nat} {rv : Value} (hS : Steps (fun n g g2 => DoesTo do_ σ p t c tp n l g g2) t 0 n k (g.top t [] ⟨fn, 0, fun i => us.getD i 0⟩) g2) (h : Has σ M w) (hM : Mach M lab p s) (hB : Base K M lab) (hA : AbsM c tp n s g) (hn : n < 90000) (ht : (t : Int) < c 1) (hq : tp[t]? = some q) (hl : levelOf c t = (l : Nat)) (hi : g.thr t = []) (hr : Rd M 1 rv us.length (u64s (us.map fun u : Nat => (u : Int)))) (hu : us.length ≤ 16) (hd : g2.thr t = []) (hk : 0 < k) (hkm : k ≤ most) (hm : most < 1000) (hent : entB Tryz.prog do_ = true) :
  Calls Tryz.prog 14 #[.pointer (some ⟨p, 0, none⟩), .int .i64 (t : Nat), .func (.func do_) #[] #[], .int .i64 (most : Nat), .int .i64 (fn : Nat), rv] w fun r w' => r = .returned (.int .i64 (k : Nat)) ∧ ∃ M' lab' s', Has σ M' w' ∧ Mach M' lab' p s' ∧ Base K M' lab' ∧ AbsM c tp (n + k) s' g2 := by
 have hfr : (s.thr t).frames = [] := by rw [hA.thr.fr t ht, hi]; rfl
 have hB0 := hA.begun ht fn us
 rw [hi] at hB0
 refine (alone_rel (dv := .func (.func do_) #[] #[]) h hM hB (by rw [hA.ttp]; exact hq) (us := us.map fun u : Nat => (u : Int)) (by rw [List.length_map]; exact hr) (by rw [List.length_map]; exact hu) (by rw [hfr]; simp) fn (P := fun i s => ∃ gi, AbsM c tp (n + i) s gi ∧ Steps (fun n g g2 => DoesTo do_ σ p t c tp n l g g2) t 0 (n + i) (k - i) gi g2) ⟨_, hB0, hS⟩ hk hkm (by omega) ?_).mono fun r w' ⟨hr, M', lab', s', h', hM', hB', gi, hA', hS'⟩ => ?_
 ·refine ⟨fun i hi M lab s w hw hM hB ⟨gi, hA, hS⟩ => ?_, fun i hi s ⟨gi, hA, _⟩ => by rw [hA.ttp]; exact hq, fun i h0 hi s ⟨gi, hA, hS⟩ => ?_, fun s ⟨gi, hA, hS⟩ => ?_⟩
  ·obtain ⟨j, hj⟩ : ∃ j, k - i = j + 1 := ⟨k - i - 1, by omega⟩
   rw [hj] at hS
   obtain ⟨g1, hD, h1, h2, hS⟩ := hS
   have hl1 : (g1.thr t).length < 1000 := by
    rcases j with _ | j
    ·have e : g2 = g1 := hS
     rw [← e, hd]; simp
    ·obtain ⟨_, _, _, h3, _⟩ := hS; exact h3
   refine (step_does hw hM hB hA (by omega) ht hq hl (fun e => by rw [e] at h1; simp at h1) (by omega) (by omega) hent hD).mono fun r w' ⟨M', lab', s', hr, h', hM', hB', hA'⟩ => ?_
   exact ⟨M', lab', _, s', hr, h', hM', hB', g1, hA', by rw [show k - (i + 1) = j by omega]; exact hS⟩
  ·obtain ⟨j, hj⟩ : ∃ j, k - i = j + 1 := ⟨k - i - 1, by omega⟩
   rw [hj] at hS
   obtain ⟨g1, hD, h1, h2, hS⟩ := hS
   rw [hfr, hA.thr.fr t ht, List.length_map]; exact h1
  ·rw [Nat.sub_self] at hS
   have e : g2 = gi := hS
   rw [hA.thr.fr t ht, ← e, hd]; simp
 ·rw [Nat.sub_self] at hS'
  have e : g2 = gi := hS'
  subst e
  exact ⟨hr, M', lab', s', h', hM', hB', hA'⟩
section
variable {g : GM} {t l o v i : Nat} {fs fs' : List Fr} {F F' : Fr} {us : List Nat}
theorem gr_same (F : Fr) (i v k : Nat) : ((F.reg i v).goto k).r i = v := put1_same _ _ _
theorem gr_ne {F : Fr} {i v k j : Nat} (h : j ≠ i) : ((F.reg i v).goto k).r j = F.r j := put1_ne h
theorem top_top : (g.top t fs F).top t fs' F' = g.top t fs' F' := by unfold GM.top; simp only [put1_put1]
theorem top_back : (g.top t fs F).back t fs' us = g.back t fs' us := by unfold GM.top GM.back; simp only [put1_put1]
theorem top_set : (g.top t fs F).set l o v = (g.set l o v).top t fs F := rfl
theorem top_hold : (g.top t fs F).hold l i = (g.hold l i).top t fs F := rfl
theorem top_drop : (g.top t fs F).drop l i = (g.drop l i).top t fs F := rfl
theorem top_thr : (g.top t fs F).thr t = fs ++ [F] := put1_same _ _ _
theorem back_thr' : (g.back t fs us).thr t = fs := put1_same _ _ _
theorem set_w (l' o' : Nat) : (g.set l o v).w l' o' = if l' = l ∧ o' = o then v else g.w l' o' := by
 show put1 g.w l (put1 (g.w l) o v) l' o' = _
 by_cases e : l' = l
 ·subst e
  rw [put1_same]
  by_cases e2 : o' = o
  ·subst e2; rw [put1_same, if_pos ⟨rfl, rfl⟩]
  ·rw [put1_ne e2, if_neg (fun h => e2 h.2)]
 ·rw [put1_ne e, if_neg (fun h => e h.1)]
theorem hold_held (l' i' : Nat) : (g.hold l i).held l' i' = if l' = l ∧ i' = i then true else g.held l' i' := by
 show put1 g.held l (put1 (g.held l) i true) l' i' = _
 by_cases e : l' = l
 ·subst e
  rw [put1_same]
  by_cases e2 : i' = i
  ·subst e2; rw [put1_same, if_pos ⟨rfl, rfl⟩]
  ·rw [put1_ne e2, if_neg (fun h => e2 h.2)]
 ·rw [put1_ne e, if_neg (fun h => e h.1)]
theorem drop_held (l' i' : Nat) : (g.drop l i).held l' i' = if l' = l ∧ i' = i then false else g.held l' i' := by
 show put1 g.held l (put1 (g.held l) i false) l' i' = _
 by_cases e : l' = l
 ·subst e
  rw [put1_same]
  by_cases e2 : i' = i
  ·subst e2; rw [put1_same, if_pos ⟨rfl, rfl⟩]
  ·rw [put1_ne e2, if_neg (fun h => e2 h.2)]
 ·rw [put1_ne e, if_neg (fun h => e h.1)]
end
/-- A level at rest: its free list, its heads. -/
structure LvR (S B m : Nat) (g : GM) (l : Nat) (L : List Nat) : Prop where
 chain : chainP (fun i => g.w l (oLk B i)) (slOf (g.w l 0)) L
 nodup : L.Nodup
 rng : ∀ x ∈ L, 1 ≤ x ∧ x ≤ S ∧ g.held l x = false
 top : g.w l 0 < 18446744073709551616
 cntN : cnt (g.w l 0) ≤ m
 lk : ∀ i, 1 ≤ i → i ≤ S → g.w l (oLk B i) ≤ S
 hd : ∀ i, 1 ≤ i → i ≤ S → g.w l (oNd B S i 0) < 17179869184 ∧ genOf (g.w l (oNd B S i 0)) ≤ m
/-- What Take makes; what Give makes. -/
def takeG (B S : Nat) (g : GM) (t l : Nat) (fs : List Fr) (x : Nat) : GM := ((g.set l 0 (mkTop (g.w l (oLk B x)) (cnt (g.w l 0) + 1))).hold l x).back t fs [x, genOf (g.w l (oNd B S x 0))]
def goneG (B S : Nat) (g : GM) (l x : Nat) : GM := ((((((g.set l (oNd B S x 0) (mkHead (genOf (g.w l (oNd B S x 0))) 3)).set l (oNd B S x 3) 0).set l (oNd B S x 4) 0).set l (oNd B S x 2) 0).set l (oNd B S x 1) 0).set l (oNd B S x 0) (mkHead (genOf (g.w l (oNd B S x 0)) + 1) 0)).drop l x
def giveG (B S gens : Nat) (g : GM) (t l : Nat) (fs : List Fr) (x : Nat) : GM := if genOf (g.w l (oNd B S x 0)) + 1 < gens then (((goneG B S g l x).set l (oLk B x) (slOf (g.w l 0))).set l 0 (mkTop x (cnt (g.w l 0) + 1))).back t fs [] else (goneG B S g l x).back t fs []
section
variable {D : Nat → GM → GM → Prop} {σ : World} {p t q l n B S m d gens : Nat} {c : Nat → Int} {tp : List Nat} {g : GM} {fs : List Fr} {F : Fr} {L : List Nat} {x : Nat}
theorem nd0_lt {g : GM} (I : LvR S B m g l L) (x1 : 1 ≤ x) (x2 : x ≤ S) : g.w l (oNd B S x 0) < 18446744073709551616 := Nat.lt_trans (I.hd x x1 x2).1 (by decide)
/-- Take alone, of an empty list. -/
theorem steps_take_no (hD : ∀ (n : Nat) (g g2 : GM) (fs : List Fr) (F : Fr), n < 100000 → (F.fn = 1 ∨ F.fn = 2) → g.thr t = fs ++ [F] → fs.length < 100000 → DoesTo 105 σ p t c tp n l g g2 → D n g g2) (hn : n < 90000) (ht : (t : Int) < c 1) (hq : tp[t]? = some q) (hl : levelOf c t = (l : Nat)) (hlc : (l : Int) < c 0) (hthr : g.thr t = fs ++ [F]) (hfs : fs.length < 900) (hds : d ≤ fs.length) (hB' : c 11 = (B : Nat)) (hS' : c 10 = (S : Nat)) (hS60 : S ≤ 60) (hm : m < 1000000) (I : LvR S B m g l L) (h1 : F.fn = 1) (hp : F.pc = 0) (hr : F.r 1 < 18446744073709551616) (hL : L = []) : Steps D t d n 2 g (g.back t fs [0, 0]) := by
 have hs : slOf (g.w l 0) = 0 := by have := I.chain; rw [hL] at this; exact this
 have D0 := hD n g _ fs F (by omega) (.inl h1) hthr (by omega) (does_t0 (by omega) ht hq hl hlc hthr (by omega) hB' hS' h1 hp hr)
 have D1 := hD (n + 1) _ _ fs ((F.reg 1 (g.w l 0)).goto 1) (by omega) (.inl h1) top_thr (by omega) (does_t1a (B := B) (S := S) (n := n + 1) (g := g.top t fs ((F.reg 1 (g.w l 0)).goto 1)) (F := (F.reg 1 (g.w l 0)).goto 1) (by omega) ht hq hl hlc top_thr (by omega) hB' hS' h1 rfl I.top hs)
 rw [top_back] at D1
 exact .cons D0 (by rw [hthr]; simp; omega) (by rw [hthr]; simp; omega) (.cons D1 (by rw [top_thr]; simp; omega) (by rw [top_thr]; simp; omega) rfl)
/-- Take alone, of a list that isn't empty. -/
theorem steps_take (hD : ∀ (n : Nat) (g g2 : GM) (fs : List Fr) (F : Fr), n < 100000 → (F.fn = 1 ∨ F.fn = 2) → g.thr t = fs ++ [F] → fs.length < 100000 → DoesTo 105 σ p t c tp n l g g2 → D n g g2) (hn : n < 90000) (ht : (t : Int) < c 1) (hq : tp[t]? = some q) (hl : levelOf c t = (l : Nat)) (hlc : (l : Int) < c 0) (hthr : g.thr t = fs ++ [F]) (hfs : fs.length < 900) (hds : d ≤ fs.length) (hB' : c 11 = (B : Nat)) (hS' : c 10 = (S : Nat)) (hS60 : S ≤ 60) (hm : m < 1000000) (I : LvR S B m g l L) (h1 : F.fn = 1) (hp : F.pc = 0) (hr : F.r 1 < 18446744073709551616) {r : List Nat} (hL : L = x :: r) : Steps D t d n 4 g (takeG B S g t l fs x) := by
 subst hL
 obtain ⟨hs, hx1, hc2⟩ := I.chain
 obtain ⟨_, hx2, hh⟩ := I.rng x List.mem_cons_self
 have hlk : g.w l (oLk B x) ≤ S := I.lk x hx1 hx2
 have D0 := hD n g _ fs F (by omega) (.inl h1) hthr (by omega) (does_t0 (by omega) ht hq hl hlc hthr (by omega) hB' hS' h1 hp hr)
 obtain ⟨F1, hF1⟩ : ∃ F1, F1 = (F.reg 1 (g.w l 0)).goto 1 := ⟨_, rfl⟩
 rw [← hF1] at D0
 have f1 : F1.fn = 1 ∧ F1.pc = 1 ∧ F1.r 1 = g.w l 0 := by rw [hF1]; exact ⟨h1, rfl, gr_same _ _ _ _⟩
 have D1 := hD (n + 1) _ _ fs _ (by omega) (.inl f1.1) top_thr (by omega) (does_t1b (B := B) (S := S) (n := n + 1) (g := g.top t fs F1) (F := F1) (by omega) ht hq hl hlc top_thr (by omega) hB' hS' f1.1 f1.2.1 (by rw [f1.2.2]; exact I.top) (by rw [f1.2.2, hs]; omega) (by rw [f1.2.2, hs]; exact hx2))
 rw [top_top, f1.2.2, hs] at D1
 obtain ⟨F2, hF2⟩ : ∃ F2, F2 = (F1.reg 2 ((g.top t fs F1).w l (oLk B x))).goto 2 := ⟨_, rfl⟩
 rw [← hF2] at D1
 have f2 : F2.fn = 1 ∧ F2.pc = 2 ∧ F2.r 1 = g.w l 0 ∧ F2.r 2 = g.w l (oLk B x) := by
  rw [hF2]; exact ⟨f1.1, rfl, (gr_ne (by decide)).trans f1.2.2, gr_same _ _ _ _⟩
 have D2 := hD (n + 2) _ _ fs _ (by omega) (.inl f2.1) top_thr (by omega) (does_t2a (B := B) (S := S) (n := n + 2) (g := g.top t fs F2) (F := F2) (by omega) ht hq hl hlc top_thr (by omega) hB' hS' f2.1 f2.2.1 (by rw [f2.2.2.1]; exact I.top) (by rw [f2.2.2.1, hs]; omega) (by rw [f2.2.2.1, hs]; exact hx2) (by rw [f2.2.2.2]; omega) f2.2.2.1.symm (by rw [f2.2.2.1, hs]; exact hh))
 rw [top_set, top_hold, top_top, f2.2.2.1, f2.2.2.2, hs] at D2
 obtain ⟨F3, hF3⟩ : ∃ F3, F3 = F2.goto 3 := ⟨_, rfl⟩
 rw [← hF3] at D2
 have f3 : F3.fn = 1 ∧ F3.pc = 3 ∧ F3.r 1 = g.w l 0 := by rw [hF3]; exact ⟨f2.1, rfl, f2.2.2.1⟩
 obtain ⟨g3, hg3⟩ : ∃ g3, g3 = (g.set l 0 (mkTop (g.w l (oLk B x)) (cnt (g.w l 0) + 1))).hold l x := ⟨_, rfl⟩
 rw [← hg3] at D2
 have hw3 : g3.w l (oNd B S x 0) = g.w l (oNd B S x 0) := by
  rw [hg3]
  show (g.set l 0 _).w l _ = _
  rw [set_w, if_neg (fun h => by have := h.2; unfold oNd at this; omega)]
 have D3 := hD (n + 3) _ _ fs _ (by omega) (.inl f3.1) top_thr (by omega) (does_t3 (B := B) (S := S) (n := n + 3) (g := g3.top t fs F3) (F := F3) (by omega) ht hq hl hlc top_thr (by omega) hB' hS' f3.1 f3.2.1 (by rw [f3.2.2]; exact I.top) (by rw [f3.2.2, hs]; omega) (by rw [f3.2.2, hs]; exact hx2) (by rw [f3.2.2, hs]; show g3.w l _ < _; rw [hw3]; exact nd0_lt I hx1 hx2))
 have e3 : (g3.top t fs F3).w l (oNd B S x 0) = g.w l (oNd B S x 0) := hw3
 rw [top_back, f3.2.2, hs, e3] at D3
 have fin : takeG B S g t l fs x = g3.back t fs [x, genOf (g.w l (oNd B S x 0))] := by rw [hg3]; rfl
 rw [fin]
 exact .cons D0 (by rw [hthr]; simp; omega) (by rw [hthr]; simp; omega) (.cons D1 (by rw [top_thr]; simp; omega) (by rw [top_thr]; simp; omega) (.cons D2 (by rw [top_thr]; simp; omega) (by rw [top_thr]; simp; omega) (.cons D3 (by rw [top_thr]; simp; omega) (by rw [top_thr]; simp; omega) rfl)))
end
end
section
open Go.RowKit
section
variable {t l n B S m gens : Nat} {g : GM} {fs : List Fr} {L r : List Nat} {x : Nat}
theorem LvR.mono {m' : Nat} (h : LvR S B m g l L) (hm : m ≤ m') : LvR S B m' g l L := ⟨h.chain, h.nodup, h.rng, h.top, Nat.le_trans h.cntN hm, h.lk, fun i a b => ⟨(h.hd i a b).1, Nat.le_trans (h.hd i a b).2 hm⟩⟩
/-- What doesn't touch a level's list, heads, held slots that are free. -/
theorem LvR.congr {g2 : GM} (h : LvR S B m g l L) (h0 : g2.w l 0 = g.w l 0) (h1 : ∀ i, 1 ≤ i → i ≤ S → g2.w l (oLk B i) = g.w l (oLk B i)) (h2 : ∀ i, 1 ≤ i → i ≤ S → g2.w l (oNd B S i 0) = g.w l (oNd B S i 0)) (h3 : ∀ x ∈ L, g2.held l x = g.held l x) : LvR S B m g2 l L :=
 ⟨by rw [h0]; exact chainP_congr _ _ h.chain fun x hx => h1 x (h.rng x hx).1 (h.rng x hx).2.1, h.nodup, fun x hx => ⟨(h.rng x hx).1, (h.rng x hx).2.1, by rw [h3 x hx]; exact (h.rng x hx).2.2⟩, by rw [h0]; exact h.top, by rw [h0]; exact h.cntN, fun i a b => by rw [h1 i a b]; exact h.lk i a b, fun i a b => by rw [h2 i a b]; exact h.hd i a b⟩
theorem LvR.take (I : LvR S B m g l (x :: r)) (hm : m < 900000) (hS60 : S ≤ 60) : LvR S B (m + 1) (takeG B S g t l fs x) l r := by
 obtain ⟨hs, hx1, hc2⟩ := I.chain
 obtain ⟨_, hx2, hh⟩ := I.rng x List.mem_cons_self
 have hnd := List.nodup_cons.1 I.nodup
 have hw : ∀ o, o ≠ 0 → (takeG B S g t l fs x).w l o = g.w l o := fun o ho => by
  show (g.set l 0 _).w l o = _
  rw [set_w, if_neg (fun h => ho h.2)]
 have hw0 : (takeG B S g t l fs x).w l 0 = mkTop (g.w l (oLk B x)) (cnt (g.w l 0) + 1) := by
  show (g.set l 0 _).w l 0 = _
  rw [set_w, if_pos ⟨rfl, rfl⟩]
 have hlk := I.lk x hx1 hx2
 have hcn := I.cntN
 have olk : ∀ i, oLk B i ≠ 0 := fun i => by unfold oLk; omega
 have ond : ∀ i, oNd B S i 0 ≠ 0 := fun i => by unfold oNd; omega
 refine ⟨?_, hnd.2, fun y hy => ?_, by rw [hw0]; exact top_lt _ _, ?_, fun i a b => by rw [hw _ (olk i)]; exact I.lk i a b, fun i a b => by rw [hw _ (ond i)]; exact ⟨(I.hd i a b).1, Nat.le_succ_of_le (I.hd i a b).2⟩⟩
 ·rw [hw0, sl_top (by omega)]
  exact chainP_congr _ _ hc2 fun y hy => hw _ (olk y)
 ·obtain ⟨a, b, e⟩ := I.rng y (List.mem_cons_of_mem _ hy)
  refine ⟨a, b, ?_⟩
  show (GM.hold (g.set l 0 _) l x).held l y = false
  rw [hold_held, if_neg (fun h => hnd.1 (by rw [← h.2]; exact hy))]
  exact e
 ·rw [hw0, cnt_top (by omega)]; omega
end
end
section
open Go.RowKit
theorem gone_top {B S t l x : Nat} {g : GM} (fs : List Fr) (F : Fr) : goneG B S (g.top t fs F) l x = (goneG B S g l x).top t fs F := rfl
theorem giveG_top {B S gens t l x : Nat} {g : GM} (fs fs' : List Fr) (F : Fr) : giveG B S gens (g.top t fs' F) t l fs x = giveG B S gens g t l fs x := by
 unfold giveG
 have e : ∀ o, (g.top t fs' F).w l o = g.w l o := fun _ => rfl
 rw [e, e, gone_top]
 split
 ·rw [top_set, top_set, top_back]
 ·rw [top_back]
section
variable {D : Nat → GM → GM → Prop} {σ : World} {p t q l n B S m d gens : Nat} {c : Nat → Int} {tp : List Nat} {g : GM} {fs : List Fr} {F : Fr} {L : List Nat} {x : Nat}
/-- Words that Give doesn't touch. -/
theorem gone_w (l' o : Nat) (h : ¬ (l' = l ∧ oNd B S x 0 ≤ o ∧ o < oNd B S x 0 + 5)) : (goneG B S g l x).w l' o = g.w l' o := by
 show ((((((g.set l _ _).set l _ 0).set l _ 0).set l _ 0).set l _ 0).set l _ _).w l' o = _
 unfold oNd at h ⊢
 rw [set_w, if_neg (by omega), set_w, if_neg (by omega), set_w, if_neg (by omega), set_w, if_neg (by omega), set_w, if_neg (by omega), set_w, if_neg (by omega)]
theorem gone_hd : (goneG B S g l x).w l (oNd B S x 0) = mkHead (genOf (g.w l (oNd B S x 0)) + 1) 0 := by
 show (GM.set _ l _ _).w l _ = _
 rw [set_w, if_pos ⟨rfl, rfl⟩]
theorem gone_fld {j : Nat} (h1 : 1 ≤ j) (h2 : j < 5) : (goneG B S g l x).w l (oNd B S x j) = 0 := by
 show ((((((g.set l _ _).set l _ 0).set l _ 0).set l _ 0).set l _ 0).set l _ _).w l _ = _
 rw [set_w, if_neg (fun h => by have := h.2; unfold oNd at this; omega)]
 rcases (show j = 1 ∨ j = 2 ∨ j = 3 ∨ j = 4 by omega) with e | e | e | e
 ·subst e; rw [set_w, if_pos ⟨rfl, rfl⟩]
 ·subst e; rw [set_w, if_neg (fun h => by have := h.2; unfold oNd at this; omega), set_w, if_pos ⟨rfl, rfl⟩]
 ·subst e; rw [set_w, if_neg (fun h => by have := h.2; unfold oNd at this; omega), set_w, if_neg (fun h => by have := h.2; unfold oNd at this; omega), set_w, if_neg (fun h => by have := h.2; unfold oNd at this; omega), set_w, if_pos ⟨rfl, rfl⟩]
 ·subst e; rw [set_w, if_neg (fun h => by have := h.2; unfold oNd at this; omega), set_w, if_neg (fun h => by have := h.2; unfold oNd at this; omega), set_w, if_pos ⟨rfl, rfl⟩]
theorem steps_give (hD : ∀ (n : Nat) (g g2 : GM) (fs : List Fr) (F : Fr), n < 100000 → (F.fn = 1 ∨ F.fn = 2) → g.thr t = fs ++ [F] → fs.length < 100000 → DoesTo 105 σ p t c tp n l g g2 → D n g g2) (hn : n < 90000) (ht : (t : Int) < c 1) (hq : tp[t]? = some q) (hl : levelOf c t = (l : Nat)) (hlc : (l : Int) < c 0) (hthr : g.thr t = fs ++ [F]) (hfs : fs.length < 900) (hds : d ≤ fs.length) (hB' : c 11 = (B : Nat)) (hS' : c 10 = (S : Nat)) (hS60 : S ≤ 60) (hm : m < 1000000) (I : LvR S B m g l L) (hg : c 12 = (gens : Nat)) (h2 : F.fn = 2) (hp : F.pc = 0) (h0 : F.r 0 = x) (x1 : 1 ≤ x) (x2 : x ≤ S) (hh : g.held l x = true) : ∃ k, k ≤ 10 ∧ 0 < k ∧ Steps D t d n k g (giveG B S gens g t l fs x) := by
 have hd0 := nd0_lt I x1 x2
 have hgm := (I.hd x x1 x2).2
 have D0 := hD n g _ fs F (by omega) (.inr h2) hthr (by omega) (does_g0 (by omega) ht hq hl hlc hthr (by omega) hB' hS' h2 hp (by rw [h0]; exact x1) (by rw [h0]; exact x2) (by rw [h0]; exact hd0))
 rw [h0] at D0
 obtain ⟨F1, hF1⟩ : ∃ G, G = (F.reg 2 (genOf (g.w l (oNd B S x 0)) + 1)).goto 1 := ⟨_, rfl⟩
 rw [← hF1] at D0
 have f1 : F1.fn = 2 ∧ F1.pc = 1 ∧ F1.r 0 = x ∧ F1.r 2 = genOf (g.w l (oNd B S x 0)) + 1 := by rw [hF1]; exact ⟨h2, rfl, (gr_ne (by decide)).trans h0, gr_same _ _ _ _⟩
 have D1 := hD (n + 1) _ _ fs F1 (by omega) (.inr f1.1) top_thr (by omega) (does_g1 (B := B) (S := S) (n := n + 1) (g := g.top t fs F1) (F := F1) (by omega) ht hq hl hlc top_thr (by omega) hB' hS' f1.1 f1.2.1 (by rw [f1.2.2.1]; exact x1) (by rw [f1.2.2.1]; exact x2) (by rw [f1.2.2.2]; omega) (by rw [f1.2.2.2]; omega))
 rw [top_set, top_top, f1.2.2.1, f1.2.2.2, Nat.add_sub_cancel] at D1
 obtain ⟨F2, hF2⟩ : ∃ G, G = F1.goto 2 := ⟨_, rfl⟩
 rw [← hF2] at D1
 have f2 : F2.fn = 2 ∧ F2.pc = 2 ∧ F2.r 0 = x ∧ F2.r 2 = genOf (g.w l (oNd B S x 0)) + 1 := by rw [hF2]; exact ⟨f1.1, rfl, f1.2.2.1, f1.2.2.2⟩
 obtain ⟨g2, hg2⟩ : ∃ G, G = g.set l (oNd B S x 0) (mkHead (genOf (g.w l (oNd B S x 0))) 3) := ⟨_, rfl⟩
 rw [← hg2] at D1
 have D2 := hD (n + 2) _ _ fs F2 (by omega) (.inr f2.1) top_thr (by omega) (does_g2 (B := B) (S := S) (n := n + 2) (g := g2.top t fs F2) (F := F2) (by omega) ht hq hl hlc top_thr (by omega) hB' hS' f2.1 f2.2.1 (by rw [f2.2.2.1]; exact x1) (by rw [f2.2.2.1]; exact x2))
 rw [top_set, top_top, f2.2.2.1] at D2
 obtain ⟨F3, hF3⟩ : ∃ G, G = F2.goto 3 := ⟨_, rfl⟩
 rw [← hF3] at D2
 have f3 : F3.fn = 2 ∧ F3.pc = 3 ∧ F3.r 0 = x ∧ F3.r 2 = genOf (g.w l (oNd B S x 0)) + 1 := by rw [hF3]; exact ⟨f2.1, rfl, f2.2.2.1, f2.2.2.2⟩
 obtain ⟨g3, hg3⟩ : ∃ G, G = g2.set l (oNd B S x 3) 0 := ⟨_, rfl⟩
 rw [← hg3] at D2
 have D3 := hD (n + 3) _ _ fs F3 (by omega) (.inr f3.1) top_thr (by omega) (does_g3 (B := B) (S := S) (n := n + 3) (g := g3.top t fs F3) (F := F3) (by omega) ht hq hl hlc top_thr (by omega) hB' hS' f3.1 f3.2.1 (by rw [f3.2.2.1]; exact x1) (by rw [f3.2.2.1]; exact x2))
 rw [top_set, top_top, f3.2.2.1] at D3
 obtain ⟨F4, hF4⟩ : ∃ G, G = F3.goto 4 := ⟨_, rfl⟩
 rw [← hF4] at D3
 have f4 : F4.fn = 2 ∧ F4.pc = 4 ∧ F4.r 0 = x ∧ F4.r 2 = genOf (g.w l (oNd B S x 0)) + 1 := by rw [hF4]; exact ⟨f3.1, rfl, f3.2.2.1, f3.2.2.2⟩
 obtain ⟨g4, hg4⟩ : ∃ G, G = g3.set l (oNd B S x 4) 0 := ⟨_, rfl⟩
 rw [← hg4] at D3
 have D4 := hD (n + 4) _ _ fs F4 (by omega) (.inr f4.1) top_thr (by omega) (does_g4 (B := B) (S := S) (n := n + 4) (g := g4.top t fs F4) (F := F4) (by omega) ht hq hl hlc top_thr (by omega) hB' hS' f4.1 f4.2.1 (by rw [f4.2.2.1]; exact x1) (by rw [f4.2.2.1]; exact x2))
 rw [top_set, top_top, f4.2.2.1] at D4
 obtain ⟨F5, hF5⟩ : ∃ G, G = F4.goto 5 := ⟨_, rfl⟩
 rw [← hF5] at D4
 have f5 : F5.fn = 2 ∧ F5.pc = 5 ∧ F5.r 0 = x ∧ F5.r 2 = genOf (g.w l (oNd B S x 0)) + 1 := by rw [hF5]; exact ⟨f4.1, rfl, f4.2.2.1, f4.2.2.2⟩
 obtain ⟨g5, hg5⟩ : ∃ G, G = g4.set l (oNd B S x 2) 0 := ⟨_, rfl⟩
 rw [← hg5] at D4
 have D5 := hD (n + 5) _ _ fs F5 (by omega) (.inr f5.1) top_thr (by omega) (does_g5 (B := B) (S := S) (n := n + 5) (g := g5.top t fs F5) (F := F5) (by omega) ht hq hl hlc top_thr (by omega) hB' hS' f5.1 f5.2.1 (by rw [f5.2.2.1]; exact x1) (by rw [f5.2.2.1]; exact x2))
 rw [top_set, top_top, f5.2.2.1] at D5
 obtain ⟨F6, hF6⟩ : ∃ G, G = F5.goto 6 := ⟨_, rfl⟩
 rw [← hF6] at D5
 have f6 : F6.fn = 2 ∧ F6.pc = 6 ∧ F6.r 0 = x ∧ F6.r 2 = genOf (g.w l (oNd B S x 0)) + 1 := by rw [hF6]; exact ⟨f5.1, rfl, f5.2.2.1, f5.2.2.2⟩
 obtain ⟨g6, hg6⟩ : ∃ G, G = g5.set l (oNd B S x 1) 0 := ⟨_, rfl⟩
 rw [← hg6] at D5
 have hh6 : g6.held l x = true := by rw [hg6, hg5, hg4, hg3, hg2]; exact hh
 have hgo : (g6.set l (oNd B S x 0) (mkHead (genOf (g.w l (oNd B S x 0)) + 1) 0)).drop l x = goneG B S g l x := by rw [hg6, hg5, hg4, hg3, hg2]; rfl
 have hw0 : (goneG B S g l x).w l 0 = g.w l 0 := gone_w l 0 (fun h => by have := h.2.1; unfold oNd at this; omega)
 by_cases hs : genOf (g.w l (oNd B S x 0)) + 1 < gens
 ·have D6 := hD (n + 6) _ _ fs F6 (by omega) (.inr f6.1) top_thr (by omega) (does_g6a (B := B) (S := S) (n := n + 6) (g := g6.top t fs F6) (F := F6) (by omega) ht hq hl hlc top_thr (by omega) hB' hS' f6.1 f6.2.1 (by rw [f6.2.2.1]; exact x1) (by rw [f6.2.2.1]; exact x2) (by rw [f6.2.2.2]; omega) (by rw [f6.2.2.1]; exact hh6) (by rw [f6.2.2.2, hg]; omega))
  rw [top_set, top_drop, top_top, f6.2.2.1, f6.2.2.2, hgo] at D6
  obtain ⟨F7, hF7⟩ : ∃ G, G = F6.goto 7 := ⟨_, rfl⟩
  rw [← hF7] at D6
  have f7 : F7.fn = 2 ∧ F7.pc = 7 ∧ F7.r 0 = x := by rw [hF7]; exact ⟨f6.1, rfl, f6.2.2.1⟩
  obtain ⟨g7, hg7⟩ : ∃ G, G = goneG B S g l x := ⟨_, rfl⟩
  rw [← hg7] at D6 hw0
  have D7 := hD (n + 7) _ _ fs F7 (by omega) (.inr f7.1) top_thr (by omega) (does_g7 (B := B) (S := S) (n := n + 7) (g := g7.top t fs F7) (F := F7) (by omega) ht hq hl hlc top_thr (by omega) hB' hS' f7.1 f7.2.1 (by rw [f7.2.2]; exact x1) (by rw [f7.2.2]; exact x2))
  have e7 : (g7.top t fs F7).w l 0 = g.w l 0 := hw0
  rw [top_top, e7] at D7
  obtain ⟨F8, hF8⟩ : ∃ G, G = (F7.reg 1 (g.w l 0)).goto 8 := ⟨_, rfl⟩
  rw [← hF8] at D7
  have f8 : F8.fn = 2 ∧ F8.pc = 8 ∧ F8.r 0 = x ∧ F8.r 1 = g.w l 0 := by rw [hF8]; exact ⟨f7.1, rfl, (gr_ne (by decide)).trans f7.2.2, gr_same _ _ _ _⟩
  have D8 := hD (n + 8) _ _ fs F8 (by omega) (.inr f8.1) top_thr (by omega) (does_g8 (B := B) (S := S) (n := n + 8) (g := g7.top t fs F8) (F := F8) (by omega) ht hq hl hlc top_thr (by omega) hB' hS' f8.1 f8.2.1 (by rw [f8.2.2.1]; exact x1) (by rw [f8.2.2.1]; exact x2) (by rw [f8.2.2.2]; exact I.top))
  rw [top_set, top_top, f8.2.2.1, f8.2.2.2] at D8
  obtain ⟨F9, hF9⟩ : ∃ G, G = F8.goto 9 := ⟨_, rfl⟩
  rw [← hF9] at D8
  have f9 : F9.fn = 2 ∧ F9.pc = 9 ∧ F9.r 0 = x ∧ F9.r 1 = g.w l 0 := by rw [hF9]; exact ⟨f8.1, rfl, f8.2.2.1, f8.2.2.2⟩
  obtain ⟨g9, hg9⟩ : ∃ G, G = g7.set l (oLk B x) (slOf (g.w l 0)) := ⟨_, rfl⟩
  rw [← hg9] at D8
  have e9 : (g9.top t fs F9).w l 0 = g.w l 0 := by
   show g9.w l 0 = _
   rw [hg9, set_w, if_neg (fun h => by have := h.2; unfold oLk at this; omega), hw0]
  have D9 := hD (n + 9) _ _ fs F9 (by omega) (.inr f9.1) top_thr (by omega) (does_g9a (B := B) (S := S) (n := n + 9) (g := g9.top t fs F9) (F := F9) (by omega) ht hq hl hlc top_thr (by omega) hB' hS' f9.1 f9.2.1 (by rw [f9.2.2.1]; exact x1) (by rw [f9.2.2.1]; exact x2) (by rw [f9.2.2.2]; exact I.top) (by rw [e9, f9.2.2.2]))
  rw [top_set, top_back, f9.2.2.1, f9.2.2.2] at D9
  have fin : giveG B S gens g t l fs x = (g9.set l 0 (mkTop x (cnt (g.w l 0) + 1))).back t fs [] := by unfold giveG; rw [if_pos hs, hg9, hg7]
  rw [fin]
  exact ⟨10, Nat.le_refl _, by decide, .cons D0 (by rw [hthr]; simp; omega) (by rw [hthr]; simp; omega) (.cons D1 (by rw [top_thr]; simp; omega) (by rw [top_thr]; simp; omega) (.cons D2 (by rw [top_thr]; simp; omega) (by rw [top_thr]; simp; omega) (.cons D3 (by rw [top_thr]; simp; omega) (by rw [top_thr]; simp; omega) (.cons D4 (by rw [top_thr]; simp; omega) (by rw [top_thr]; simp; omega) (.cons D5 (by rw [top_thr]; simp; omega) (by rw [top_thr]; simp; omega) (.cons D6 (by rw [top_thr]; simp; omega) (by rw [top_thr]; simp; omega) (.cons D7 (by rw [top_thr]; simp; omega) (by rw [top_thr]; simp; omega) (.cons D8 (by rw [top_thr]; simp; omega) (by rw [top_thr]; simp; omega) (.cons D9 (by rw [top_thr]; simp; omega) (by rw [top_thr]; simp; omega) rfl)))))))))⟩
 ·have D6 := hD (n + 6) _ _ fs F6 (by omega) (.inr f6.1) top_thr (by omega) (does_g6b (B := B) (S := S) (n := n + 6) (g := g6.top t fs F6) (F := F6) (by omega) ht hq hl hlc top_thr (by omega) hB' hS' f6.1 f6.2.1 (by rw [f6.2.2.1]; exact x1) (by rw [f6.2.2.1]; exact x2) (by rw [f6.2.2.2]; omega) (by rw [f6.2.2.1]; exact hh6) (by rw [f6.2.2.2, hg]; omega))
  rw [top_set, top_drop, top_back, f6.2.2.1, f6.2.2.2, hgo] at D6
  have fin : giveG B S gens g t l fs x = (goneG B S g l x).back t fs [] := by unfold giveG; rw [if_neg hs]
  rw [fin]
  exact ⟨7, by omega, by decide, .cons D0 (by rw [hthr]; simp; omega) (by rw [hthr]; simp; omega) (.cons D1 (by rw [top_thr]; simp; omega) (by rw [top_thr]; simp; omega) (.cons D2 (by rw [top_thr]; simp; omega) (by rw [top_thr]; simp; omega) (.cons D3 (by rw [top_thr]; simp; omega) (by rw [top_thr]; simp; omega) (.cons D4 (by rw [top_thr]; simp; omega) (by rw [top_thr]; simp; omega) (.cons D5 (by rw [top_thr]; simp; omega) (by rw [top_thr]; simp; omega) (.cons D6 (by rw [top_thr]; simp; omega) (by rw [top_thr]; simp; omega) rfl))))))⟩
end
section
variable {t l n B S m gens : Nat} {g : GM} {fs : List Fr} {L r : List Nat} {x : Nat}
/-- Free list behind Give. -/
def gaveL (B S gens : Nat) (g : GM) (l x : Nat) (L : List Nat) : List Nat := if genOf (g.w l (oNd B S x 0)) + 1 < gens then x :: L else L
theorem give_w0 (l' o : Nat) (h : ¬ (l' = l ∧ (o = 0 ∨ o = oLk B x ∨ (oNd B S x 0 ≤ o ∧ o < oNd B S x 0 + 5)))) : (giveG B S gens g t l fs x).w l' o = g.w l' o := by
 unfold giveG
 split
 ·show (((goneG B S g l x).set l (oLk B x) _).set l 0 _).w l' o = _
  rw [set_w, if_neg (by omega), set_w, if_neg (by omega), gone_w _ _ (by omega)]
 ·exact gone_w _ _ (by omega)
theorem give_hd (x1 : 1 ≤ x) (x2 : x ≤ S) : (giveG B S gens g t l fs x).w l (oNd B S x 0) = mkHead (genOf (g.w l (oNd B S x 0)) + 1) 0 := by
 unfold giveG
 split
 ·show (((goneG B S g l x).set l (oLk B x) _).set l 0 _).w l _ = _
  rw [set_w, if_neg (fun h => by have := h.2; unfold oNd at this; omega), set_w, if_neg (fun h => by have := h.2; unfold oNd oLk at this; omega)]
  exact gone_hd
 ·exact gone_hd
theorem give_fld (x1 : 1 ≤ x) (x2 : x ≤ S) {j : Nat} (h1 : 1 ≤ j) (h2 : j < 5) : (giveG B S gens g t l fs x).w l (oNd B S x j) = 0 := by
 unfold giveG
 split
 ·show (((goneG B S g l x).set l (oLk B x) _).set l 0 _).w l _ = _
  rw [set_w, if_neg (fun h => by have := h.2; unfold oNd at this; omega), set_w, if_neg (fun h => by have := h.2; unfold oNd oLk at this; omega)]
  exact gone_fld h1 h2
 ·exact gone_fld h1 h2
theorem give_held (l' y : Nat) : (giveG B S gens g t l fs x).held l' y = if l' = l ∧ y = x then false else g.held l' y := by
 unfold giveG
 split
 ·exact drop_held (g := ((((((g.set l (oNd B S x 0) (mkHead (genOf (g.w l (oNd B S x 0))) 3)).set l (oNd B S x 3) 0).set l (oNd B S x 4) 0).set l (oNd B S x 2) 0).set l (oNd B S x 1) 0).set l (oNd B S x 0) (mkHead (genOf (g.w l (oNd B S x 0)) + 1) 0))) (l := l) (i := x) l' y
 ·exact drop_held (g := ((((((g.set l (oNd B S x 0) (mkHead (genOf (g.w l (oNd B S x 0))) 3)).set l (oNd B S x 3) 0).set l (oNd B S x 4) 0).set l (oNd B S x 2) 0).set l (oNd B S x 1) 0).set l (oNd B S x 0) (mkHead (genOf (g.w l (oNd B S x 0)) + 1) 0))) (l := l) (i := x) l' y
theorem LvR.give (I : LvR S B m g l L) (hm : m < 900000) (hS60 : S ≤ 60) (x1 : 1 ≤ x) (x2 : x ≤ S) (hx : x ∉ L) : LvR S B (m + 1) (giveG B S gens g t l fs x) l (gaveL B S gens g l x L) := by
 have hcn := I.cntN
 have hgn := (I.hd x x1 x2).2
 have hnd : ∀ i, 1 ≤ i → i ≤ S → i ≠ x → (giveG B S gens g t l fs x).w l (oNd B S i 0) = g.w l (oNd B S i 0) := fun i a b e => give_w0 _ _ (fun h => by
  rcases h.2 with h | h | h
  ·unfold oNd at h; omega
  ·unfold oNd oLk at h; omega
  ·unfold oNd at h; omega)
 have hlk : ∀ i, 1 ≤ i → i ≤ S → i ≠ x → (giveG B S gens g t l fs x).w l (oLk B i) = g.w l (oLk B i) := fun i a b e => give_w0 _ _ (fun h => by
  rcases h.2 with h | h | h
  ·unfold oLk at h; omega
  ·unfold oLk at h; omega
  ·unfold oNd oLk at h; omega)
 have hhd : ∀ i, 1 ≤ i → i ≤ S → (giveG B S gens g t l fs x).w l (oNd B S i 0) < 17179869184 ∧ genOf ((giveG B S gens g t l fs x).w l (oNd B S i 0)) ≤ m + 1 := fun i a b => by
  by_cases e : i = x
  ·subst e
   rw [give_hd x1 x2]
   exact ⟨head_lt _ _, by rw [gen_head (by omega)]; omega⟩
  ·rw [hnd i a b e]; exact ⟨(I.hd i a b).1, Nat.le_succ_of_le (I.hd i a b).2⟩
 have hheld : ∀ y ∈ L, (giveG B S gens g t l fs x).held l y = false := fun y hy => by
  rw [give_held]
  split
  ·rfl
  ·exact (I.rng y hy).2.2
 by_cases hs : genOf (g.w l (oNd B S x 0)) + 1 < gens
 ·have e0 : (giveG B S gens g t l fs x).w l 0 = mkTop x (cnt (g.w l 0) + 1) := by
   unfold giveG
   rw [if_pos hs]
   show (GM.set _ l 0 _).w l 0 = _
   rw [set_w, if_pos ⟨rfl, rfl⟩]
  have ex : (giveG B S gens g t l fs x).w l (oLk B x) = slOf (g.w l 0) := by
   unfold giveG
   rw [if_pos hs]
   show (GM.set (GM.set _ l _ _) l 0 _).w l _ = _
   rw [set_w, if_neg (fun h => by have := h.2; unfold oLk at this; omega), set_w, if_pos ⟨rfl, rfl⟩]
  have hsl : slOf (g.w l 0) ≤ S := by
   have := I.chain
   cases hL : L with
   | nil => rw [hL] at this; have e : slOf (g.w l 0) = 0 := this; omega
   | cons y r => rw [hL] at this; have e := this.1; have := (I.rng y (by rw [hL]; exact List.mem_cons_self)).2.1; omega
  unfold gaveL
  rw [if_pos hs]
  refine ⟨?_, List.nodup_cons.2 ⟨hx, I.nodup⟩, fun y hy => ?_, by rw [e0]; exact top_lt _ _, by rw [e0, cnt_top (by omega)]; omega, fun i a b => ?_, hhd⟩
  ·rw [e0, sl_top (by omega)]
   refine ⟨rfl, x1, ?_⟩
   show chainP _ ((giveG B S gens g t l fs x).w l (oLk B x)) L
   rw [ex]
   exact chainP_congr _ _ I.chain fun y hy => hlk y (I.rng y hy).1 (I.rng y hy).2.1 (fun e => hx (by rw [← e]; exact hy))
  ·rcases List.mem_cons.1 hy with e | hy
   ·subst e; exact ⟨x1, x2, by rw [give_held, if_pos ⟨rfl, rfl⟩]⟩
   ·exact ⟨(I.rng y hy).1, (I.rng y hy).2.1, hheld y hy⟩
  ·by_cases e : i = x
   ·subst e; rw [ex]; exact hsl
   ·rw [hlk i a b e]; exact I.lk i a b
 ·have e0 : (giveG B S gens g t l fs x).w l 0 = g.w l 0 := by
   unfold giveG
   rw [if_neg hs]
   exact gone_w _ _ (fun h => by have := h.2.1; unfold oNd at this; omega)
  have ex : ∀ i, 1 ≤ i → i ≤ S → (giveG B S gens g t l fs x).w l (oLk B i) = g.w l (oLk B i) := fun i a b => by
   unfold giveG
   rw [if_neg hs]
   exact gone_w _ _ (fun h => by have := h.2.1; unfold oNd oLk at this; omega)
  unfold gaveL
  rw [if_neg hs]
  refine ⟨by rw [e0]; exact chainP_congr _ _ I.chain fun y hy => ex y (I.rng y hy).1 (I.rng y hy).2.1, I.nodup, fun y hy => ⟨(I.rng y hy).1, (I.rng y hy).2.1, hheld y hy⟩, by rw [e0]; exact I.top, by rw [e0]; omega, fun i a b => by rw [ex i a b]; exact I.lk i a b, hhd⟩
end
end
section
open Go.RowKit
/-- Slots from one on. -/
def slotsFrom (a m : Nat) : List Nat := (List.range m).map (· + a)
theorem slotsFrom_succ (a m : Nat) : slotsFrom a (m + 1) = a :: slotsFrom (a + 1) m := by
 unfold slotsFrom
 rw [List.range_succ_eq_map, List.map_cons, List.map_map, Nat.zero_add]
 congr 1
 apply List.map_congr_left
 intro x _
 show x + 1 + a = x + (a + 1)
 omega
theorem chain_from (lk : Nat → Nat) (S : Nat) : ∀ (m a : Nat), 1 ≤ a → a + m = S + 1 → (∀ i, a ≤ i → i < S → lk i = i + 1) → lk S = 0 → chainP lk (if m = 0 then 0 else a) (slotsFrom a m)
 | 0, _, _, _, _, _ => rfl
 | m + 1, a, h1, he, hk, hz => by
  rw [slotsFrom_succ, if_neg (by omega)]
  refine ⟨rfl, h1, ?_⟩
  have ih := chain_from lk S m (a + 1) (by omega) (by omega) (fun i h2 h3 => hk i (by omega) h3) hz
  by_cases hm : m = 0
  ·subst hm
   rw [if_pos rfl] at ih
   rw [show a = S by omega, hz]
   exact ih
  ·rw [if_neg hm] at ih
   rw [hk a (Nat.le_refl _) (by omega)]
   exact ih
theorem w0_lk (B S i : Nat) (h1 : 1 ≤ i) (h2 : i ≤ S) : (w0 B S S (oLk B i)).toNat = if 2 ≤ i ∧ i < S then i + 1 else 0 := by
 unfold w0 oLk
 by_cases h : 2 ≤ i ∧ i < S
 ·rw [if_neg (by omega), if_neg (by omega), if_neg (by omega), if_pos (by omega), if_pos h]; omega
 ·rw [if_neg (by omega), if_neg (by omega), if_neg (by omega), if_neg (by omega), if_neg h]; rfl
theorem w0_nd (B S i : Nat) (h1 : 1 ≤ i) : (w0 B S S (oNd B S i 0)).toNat = if i = 1 then 1 else 0 := by
 unfold w0 oNd
 by_cases h : i = 1
 ·rw [if_neg (by omega), if_neg (by omega), if_pos (by omega), if_pos h]; rfl
 ·rw [if_neg (by omega), if_neg (by omega), if_neg (by omega), if_neg (by omega), if_neg h]; rfl
theorem w0_fld (B S i j : Nat) (h1 : 1 ≤ i) (h2 : 1 ≤ j) (h3 : j < 5) : (w0 B S S (oNd B S i j)).toNat = 0 := by
 unfold w0 oNd
 rw [if_neg (by omega), if_neg (by omega), if_neg (by omega), if_neg (by omega)]; rfl
theorem lvR_first {B S : Nat} (hS : 2 ≤ S) (l : Nat) : LvR S B 0 (gm0 B S) l (slotsFrom 2 (S - 1)) := by
 have ez : (gm0 B S).w l 0 = 2 := rfl
 refine ⟨?_, ?_, fun x hx => ?_, by rw [ez]; decide, by rw [ez]; decide, fun i h1 h2 => ?_, fun i h1 h2 => ?_⟩
 ·rw [ez, show slOf 2 = 2 by decide]
  have := chain_from (fun i => (w0 B S S (oLk B i)).toNat) S (S - 1) 2 (by omega) (by omega) (fun i h1 h2 => by show (w0 B S S (oLk B i)).toNat = _; rw [w0_lk B S i (by omega) (by omega), if_pos ⟨h1, h2⟩]) (by show (w0 B S S (oLk B S)).toNat = _; rw [w0_lk B S S (by omega) (by omega), if_neg (by omega)])
  rw [if_neg (by omega)] at this
  exact this
 ·exact List.Pairwise.map _ (fun a b hab e => hab (by omega)) (List.nodup_range (n := S - 1))
 ·obtain ⟨y, hy, rfl⟩ := List.mem_map.1 hx
  have := List.mem_range.1 hy
  refine ⟨by omega, by omega, ?_⟩
  show (y + 2 == 1) = false
  simp
 ·show (w0 B S S (oLk B i)).toNat ≤ S
  rw [w0_lk B S i h1 h2]
  split <;> omega
 ·show (w0 B S S (oNd B S i 0)).toNat < _ ∧ genOf (w0 B S S (oNd B S i 0)).toNat ≤ 0
  rw [w0_nd B S i h1]
  split
  ·exact ⟨by decide, by decide⟩
  ·exact ⟨by decide, by decide⟩
end
section
open Go.RowKit
/-- Which slots are held. -/
structure HX (S : Nat) (hd : Nat → Bool) (H : List Nat) : Prop where
  nodup : H.Nodup
  rng : ∀ x ∈ H, 1 ≤ x ∧ x ≤ S
  iff : ∀ i, 1 ≤ i → i ≤ S → (hd i = true ↔ i ∈ H)
section
variable {S x : Nat} {hd hd2 : Nat → Bool} {H H2 : List Nat}
theorem HX.perm (h : HX S hd H) (hp : H.Perm H2) : HX S hd H2 := ⟨hp.nodup_iff.1 h.nodup, fun x hx => h.rng x (hp.mem_iff.2 hx), fun i a b => (h.iff i a b).trans hp.mem_iff⟩
theorem HX.same (h : HX S hd H) (e : ∀ i, 1 ≤ i → i ≤ S → hd2 i = hd i) : HX S hd2 H := ⟨h.nodup, h.rng, fun i a b => by rw [e i a b]; exact h.iff i a b⟩
theorem HX.add (h : HX S hd H) (x1 : 1 ≤ x) (x2 : x ≤ S) (hx : hd x = false) (e : ∀ i, hd2 i = if i = x then true else hd i) : HX S hd2 (x :: H) := by
  refine ⟨List.nodup_cons.2 ⟨fun hm => ?_, h.nodup⟩, fun y hy => ?_, fun i a b => ?_⟩
  · have := (h.iff x x1 x2).2 hm
    rw [hx] at this; cases this
  · rcases List.mem_cons.1 hy with rfl | hy
    · exact ⟨x1, x2⟩
    · exact h.rng y hy
  · rw [e i, List.mem_cons]
    by_cases c : i = x
    · rw [if_pos c]; exact ⟨fun _ => .inl c, fun _ => rfl⟩
    · rw [if_neg c, h.iff i a b]
      exact ⟨.inr, fun hh => hh.resolve_left c⟩
theorem HX.del (h : HX S hd (x :: H)) (e : ∀ i, hd2 i = if i = x then false else hd i) : HX S hd2 H := by
  obtain ⟨hn, hn2⟩ := List.nodup_cons.1 h.nodup
  refine ⟨hn2, fun y hy => h.rng y (List.mem_cons_of_mem _ hy), fun i a b => ?_⟩
  rw [e i]
  by_cases c : i = x
  · rw [if_pos c]
    exact ⟨fun hh => (nomatch hh), fun hh => absurd (c ▸ hh) hn⟩
  · rw [if_neg c, h.iff i a b, List.mem_cons]
    exact ⟨fun hh => hh.resolve_left c, .inr⟩
end
/-- The slots that Cells have. -/
def cSlots (C : List Nat) : List Nat := (C.filter fun v => v != 0).map fun v => cutN v 0 8
theorem cSlots_zero (R : List Nat) : cSlots (0 :: R) = cSlots R := rfl
theorem cSlots_cons {v : Nat} (R : List Nat) (hv : v ≠ 0) : cSlots (v :: R) = cutN v 0 8 :: cSlots R := by
  unfold cSlots
  rw [List.filter_cons, if_pos (by simpa using hv), List.map_cons]
theorem cSlots_clear {v : Nat} (hv : v ≠ 0) : ∀ (C : List Nat) (i : Nat), C[i]? = some v → (cSlots C).Perm (cutN v 0 8 :: cSlots (C.set i 0))
  | [], i, h => by simp at h
  | a :: R, 0, h => by
    have e : a = v := by simpa using h
    subst e
    rw [cSlots_cons R hv, qE, cSlots_zero]
  | a :: R, i + 1, h => by
    have ih := cSlots_clear hv R i (by simpa using h)
    rw [qF]
    by_cases ha : a = 0
    · subst ha; rw [cSlots_zero, cSlots_zero]; exact ih
    · rw [cSlots_cons R ha, cSlots_cons _ ha]
      exact (ih.cons _).trans (List.Perm.swap _ _ _)
theorem cSlots_fill {v : Nat} (hv : v ≠ 0) {C : List Nat} {i : Nat} (hi : C[i]? = some 0) : (cSlots (C.set i v)).Perm (cutN v 0 8 :: cSlots C) := by
  obtain ⟨h1, h2⟩ := List.getElem?_eq_some_iff.1 hi
  have := cSlots_clear hv (C.set i v) i (by rw [List.getElem?_set_self h1])
  rw [List.set_set] at this
  have e : C.set i 0 = C := by
    apply List.ext_getElem?
    intro j
    rw [List.getElem?_set]
    by_cases c : i = j
    · subst c; rw [if_pos rfl, if_pos h1, hi]
    · rw [if_neg c]
  rw [e] at this
  exact this
theorem mkCell_eq (s g l : Nat) : mkCell s g l = 4611686018427387904 + 4294967296 * (l % 1073741824) + 256 * (g % 16777216) + s % 256 := by
  have h1 : setN (cutN s 0 8) 8 24 g = 256 * (g % 16777216) + s % 256 := by unfold setN cutN; omega
  unfold mkCell
  rw [h1]
  unfold setN
  omega
theorem cell_slot {s g l : Nat} (hs : s < 256) : cutN (mkCell s g l) 0 8 = s := by rw [mkCell_eq]; unfold cutN; omega
theorem cell_lt (s g l : Nat) : mkCell s g l < 18446744073709551616 := by rw [mkCell_eq]; omega
theorem cell_ne (s g l : Nat) : mkCell s g l ≠ 0 := by rw [mkCell_eq]; omega
theorem cell_kind (s g l : Nat) : kindN (mkCell s g l) = 2 := by
  unfold kindN
  rw [if_neg (cell_ne _ _ _)]
  have : oneB (mkCell s g l) 63 = false := by
    unfold oneB
    rw [mkCell_eq]
    apply decide_eq_false
    unfold cutN
    omega
  rw [this]; rfl
/-- A level at rest: what is free is clean; what isn't is held, or worn. -/
structure LvX (S B gens m : Nat) (g : GM) (l : Nat) (L : List Nat) : Prop where
  rest : LvR S B m g l L
  free : ∀ x ∈ L, g.w l (oNd B S x 0) % 4 = 0 ∧ genOf (g.w l (oNd B S x 0)) < gens ∧ ∀ j, 1 ≤ j → j < 5 → g.w l (oNd B S x j) = 0
  other : ∀ i, 1 ≤ i → i ≤ S → i ∉ L → g.held l i = true ∨ gens ≤ genOf (g.w l (oNd B S i 0))
section
variable {S B gens m m' l t x : Nat} {g g2 : GM} {L r C had : List Nat} {fs : List Fr}
theorem LvX.mono (h : LvX S B gens m g l L) (hm : m ≤ m') : LvX S B gens m' g l L := ⟨h.rest.mono hm, h.free, h.other⟩
theorem LvX.congr (h : LvX S B gens m g l L) (h0 : g2.w l 0 = g.w l 0) (h1 : ∀ i, 1 ≤ i → i ≤ S → g2.w l (oLk B i) = g.w l (oLk B i)) (h2 : ∀ i j, 1 ≤ i → i ≤ S → j < 5 → g2.w l (oNd B S i j) = g.w l (oNd B S i j)) (h3 : ∀ i, 1 ≤ i → i ≤ S → g2.held l i = g.held l i) : LvX S B gens m g2 l L := by
  refine ⟨h.rest.congr h0 h1 (fun i a b => h2 i 0 a b (by decide)) fun x hx => h3 x (h.rest.rng x hx).1 (h.rest.rng x hx).2.1, fun x hx => ?_, fun i a b c => ?_⟩
  · obtain ⟨x1, x2, _⟩ := h.rest.rng x hx
    rw [h2 x 0 x1 x2 (by decide)]
    exact ⟨(h.free x hx).1, (h.free x hx).2.1, fun j j1 j5 => by rw [h2 x j x1 x2 j5]; exact (h.free x hx).2.2 j j1 j5⟩
  · rw [h3 i a b, h2 i 0 a b (by decide)]; exact h.other i a b c
theorem LvX.take (h : LvX S B gens m g l (x :: r)) (hm : m < 900000) (hS60 : S ≤ 60) : LvX S B gens (m + 1) (takeG B S g t l fs x) l r := by
  have hw : ∀ o, o ≠ 0 → (takeG B S g t l fs x).w l o = g.w l o := fun o ho => by
    show (g.set l 0 _).w l o = _
    rw [set_w, if_neg fun hh => ho hh.2]
  have hd : ∀ i, (takeG B S g t l fs x).held l i = if l = l ∧ i = x then true else g.held l i := fun i => hold_held (g := g.set l 0 _) l i
  have ho : ∀ i j, oNd B S i j ≠ 0 := fun i j => by unfold oNd; omega
  refine ⟨h.rest.take hm hS60, fun y hy => ?_, fun i a b c => ?_⟩
  · rw [hw _ (ho _ _)]
    exact ⟨(h.free y (List.mem_cons_of_mem _ hy)).1, (h.free y (List.mem_cons_of_mem _ hy)).2.1, fun j j1 j5 => by rw [hw _ (ho _ _)]; exact (h.free y (List.mem_cons_of_mem _ hy)).2.2 j j1 j5⟩
  · rw [hw _ (ho _ _), hd]
    by_cases e : i = x
    · rw [if_pos ⟨rfl, e⟩]; exact .inl rfl
    · rw [if_neg fun hh => e hh.2]
      exact h.other i a b fun hh => (List.mem_cons.1 hh).elim e c
theorem LvX.give (h : LvX S B gens m g l L) (hm : m < 900000) (hS60 : S ≤ 60) (x1 : 1 ≤ x) (x2 : x ≤ S) (hx : x ∉ L) : LvX S B gens (m + 1) (giveG B S gens g t l fs x) l (gaveL B S gens g l x L) := by
  have hgm := (h.rest.hd x x1 x2).2
  have hnd : ∀ y j, 1 ≤ y → y ≤ S → j < 5 → y ≠ x → (giveG B S gens g t l fs x).w l (oNd B S y j) = g.w l (oNd B S y j) := fun y j h1 h2 hj e => give_w0 _ _ fun hh => by
    rcases hh.2 with h | h | h
    · unfold oNd at h; omega
    · unfold oNd oLk at h; omega
    · unfold oNd at h; omega
  have hhd : genOf ((giveG B S gens g t l fs x).w l (oNd B S x 0)) = genOf (g.w l (oNd B S x 0)) + 1 := by rw [give_hd x1 x2, gen_head (by omega)]
  have hold : ∀ y ∈ L, (giveG B S gens g t l fs x).w l (oNd B S y 0) % 4 = 0 ∧ genOf ((giveG B S gens g t l fs x).w l (oNd B S y 0)) < gens ∧ ∀ j, 1 ≤ j → j < 5 → (giveG B S gens g t l fs x).w l (oNd B S y j) = 0 := fun y hy => by
    obtain ⟨y1, y2, _⟩ := h.rest.rng y hy
    have hne : y ≠ x := fun e => hx (e ▸ hy)
    rw [hnd y 0 y1 y2 (by decide) hne]
    exact ⟨(h.free y hy).1, (h.free y hy).2.1, fun j j1 j5 => by rw [hnd y j y1 y2 j5 hne]; exact (h.free y hy).2.2 j j1 j5⟩
  refine ⟨h.rest.give hm hS60 x1 x2 hx, fun y hy => ?_, fun i a b c => ?_⟩
  · unfold gaveL at hy
    split at hy
    · next hg =>
      rcases List.mem_cons.1 hy with rfl | hy
      · exact ⟨by rw [give_hd x1 x2]; exact head_st _, by rw [hhd]; exact hg, fun j j1 j5 => give_fld x1 x2 j1 j5⟩
      · exact hold y hy
    · exact hold y hy
  · by_cases e : i = x
    · subst e
      refine .inr ?_
      rw [hhd]
      unfold gaveL at c
      split at c
      · exact absurd List.mem_cons_self c
      · omega
    · rw [give_held, if_neg fun hh => e hh.2, hnd i 0 a b (by decide) e]
      refine h.other i a b fun hh => c ?_
      unfold gaveL
      split
      · exact List.mem_cons_of_mem _ hh
      · exact hh
/-- A level at rest, with its Cells and what was taken. -/
structure LbX (S B gens m : Nat) (g : GM) (l : Nat) (L C had : List Nat) : Prop where
  lv : LvX S B gens m g l L
  len : C.length = B
  w : ∀ i, i < B → g.w l (18 + i) = C.getD i 0
  ok : ∀ v ∈ C, v ≠ 0 → v < 18446744073709551616 ∧ kindN v = 2
  hx : HX S (g.held l) (1 :: (had ++ cSlots C))
theorem LbX.mono (h : LbX S B gens m g l L C had) (hm : m ≤ m') : LbX S B gens m' g l L C had := ⟨h.lv.mono hm, h.len, h.w, h.ok, h.hx⟩
theorem LbX.congr (h : LbX S B gens m g l L C had) (hw : ∀ o, o = 0 ∨ 18 ≤ o → g2.w l o = g.w l o) (hh : ∀ i, g2.held l i = g.held l i) : LbX S B gens m g2 l L C had :=
  ⟨h.lv.congr (hw _ (.inl rfl)) (fun i _ _ => hw _ (.inr (by unfold oLk; omega))) (fun i j _ _ _ => hw _ (.inr (by unfold oNd; omega))) fun i _ _ => hh i, h.len, fun i hi => by rw [hw _ (.inr (by omega))]; exact h.w i hi, h.ok, h.hx.same fun i _ _ => hh i⟩
/-- A slot that is held isn't free. -/
theorem LbX.busy (h : LbX S B gens m g l L C had) (hx : x ∈ 1 :: (had ++ cSlots C)) : 1 ≤ x ∧ x ≤ S ∧ g.held l x = true ∧ x ∉ L := by
  obtain ⟨a, b⟩ := h.hx.rng x hx
  have c := (h.hx.iff x a b).2 hx
  exact ⟨a, b, c, fun hl => by have := (h.lv.rest.rng x hl).2.2; rw [c] at this; cases this⟩
theorem LbX.take (h : LbX S B gens m g l (x :: r) C had) (hm : m < 900000) (hS60 : S ≤ 60) : LbX S B gens (m + 1) (takeG B S g t l fs x) l r C (had ++ [x]) := by
  obtain ⟨x1, x2, x3⟩ := h.lv.rest.rng x List.mem_cons_self
  refine ⟨h.lv.take hm hS60, h.len, fun i hi => ?_, h.ok, ?_⟩
  · show (g.set l 0 _).w l _ = _
    rw [set_w, if_neg fun hh => by have := hh.2; omega]; exact h.w i hi
  · have hd : ∀ i, (takeG B S g t l fs x).held l i = if i = x then true else g.held l i := fun i => by
      have := hold_held (g := g.set l 0 (mkTop (g.w l (oLk B x)) (cnt (g.w l 0) + 1))) (l := l) (i := x) l i
      by_cases e : i = x
      · rw [if_pos ⟨rfl, e⟩] at this; rw [if_pos e]; exact this
      · rw [if_neg fun hh => e hh.2] at this; rw [if_neg e]; exact this
    refine (h.hx.add x1 x2 x3 hd).perm ?_
    rw [List.append_assoc]
    have p1 : (x :: 1 :: (had ++ cSlots C)).Perm (1 :: x :: (had ++ cSlots C)) := List.Perm.swap _ _ _
    exact p1.trans ((List.perm_middle (a := x) (l₁ := had) (l₂ := cSlots C)).symm.cons 1)
theorem getD_set (C : List Nat) (i v j : Nat) (hi : i < C.length) : (C.set i v).getD j 0 = if j = i then v else C.getD j 0 := by
  rw [List.getD_eq_getElem?_getD, List.getD_eq_getElem?_getD, List.getElem?_set]
  by_cases e : j = i
  · subst e; rw [if_pos rfl, if_pos hi, if_pos rfl]; rfl
  · rw [if_neg (fun h => e h.symm), if_neg e]
/-- Words of a Cell are apart from all others. -/
theorem LvX.cell (h : LvX S B gens m g l L) {i v : Nat} (hi : i < B) : LvX S B gens m (g.set l (18 + i) v) l L :=
  h.congr (by rw [set_w, if_neg fun hh => by have := hh.2; omega]) (fun j _ _ => by rw [set_w, if_neg fun hh => by have := hh.2; unfold oLk at this; omega]) (fun j k _ _ _ => by rw [set_w, if_neg fun hh => by have := hh.2; unfold oNd at this; omega]) fun _ _ _ => rfl
/-- Fill of what was taken. -/
theorem LbX.fill {had2 : List Nat} {i v : Nat} (h : LbX S B gens m g l L C had) (hp : had.Perm (cutN v 0 8 :: had2)) (hi : C[i]? = some 0) (hv0 : v ≠ 0) (hv64 : v < 18446744073709551616) (hk : kindN v = 2) : LbX S B gens m (g.set l (18 + i) v) l L (C.set i v) had2 := by
  obtain ⟨h1, h2⟩ := List.getElem?_eq_some_iff.1 hi
  have hiB : i < B := by rw [← h.len]; exact h1
  refine ⟨h.lv.cell hiB, by rw [List.length_set]; exact h.len, fun j hj => ?_, fun u hu hu0 => ?_, h.hx.perm ?_⟩
  · rw [set_w, getD_set _ _ _ _ h1]
    by_cases e : j = i
    · rw [if_pos ⟨rfl, by omega⟩, if_pos e]
    · rw [if_neg fun hh => e (by have := hh.2; omega), if_neg e]; exact h.w j hj
  · rcases List.mem_or_eq_of_mem_set hu with hu | hu
    · exact h.ok u hu hu0
    · subst hu; exact ⟨hv64, hk⟩
  · refine List.Perm.cons 1 ?_
    refine (hp.append_right (cSlots C)).trans ?_
    have p1 := (cSlots_fill hv0 hi).symm
    have p2 : (cutN v 0 8 :: had2 ++ cSlots C).Perm (had2 ++ cutN v 0 8 :: cSlots C) := (List.perm_middle (a := cutN v 0 8) (l₁ := had2) (l₂ := cSlots C)).symm
    exact p2.trans (p1.append_left had2)
/-- A Cell's slot is given, and the Cell is empty. -/
theorem LbX.swept {i v : Nat} (h : LbX S B gens m g l L C had) (hi : C[i]? = some v) (hv0 : v ≠ 0) (hm : m < 900000) (hS60 : S ≤ 60) {z : Nat} : LbX S B gens (m + 1) ((giveG B S gens (g.set l (18 + i) z) t l fs (cutN v 0 8)).set l (18 + i) 0) l (gaveL B S gens g l (cutN v 0 8) L) (C.set i 0) had := by
  obtain ⟨h1, h2⟩ := List.getElem?_eq_some_iff.1 hi
  have hiB : i < B := by rw [← h.len]; exact h1
  have hp := cSlots_clear hv0 C i hi
  have hx0 : cutN v 0 8 ∈ 1 :: (had ++ cSlots C) := List.mem_cons_of_mem _ (List.mem_append_right _ (hp.mem_iff.2 List.mem_cons_self))
  obtain ⟨x1, x2, x3, x4⟩ := h.busy hx0
  have eL : gaveL B S gens (g.set l (18 + i) z) l (cutN v 0 8) L = gaveL B S gens g l (cutN v 0 8) L := by
    have ew : (g.set l (18 + i) z).w l (oNd B S (cutN v 0 8) 0) = g.w l (oNd B S (cutN v 0 8) 0) := by
      rw [set_w, if_neg fun hh => by have := hh.2; unfold oNd at this; omega]
    unfold gaveL
    rw [ew]
  have hG := (h.lv.cell (v := z) hiB).give (t := t) (fs := fs) hm hS60 x1 x2 x4
  rw [eL] at hG
  refine ⟨hG.cell hiB, by rw [List.length_set]; exact h.len, fun j hj => ?_, fun u hu hu0 => ?_, ?_⟩
  · rw [set_w, getD_set _ _ _ _ h1]
    by_cases e : j = i
    · rw [if_pos ⟨rfl, by omega⟩, if_pos e]
    · rw [if_neg fun hh => e (by have := hh.2; omega), if_neg e, give_w0 _ _ fun hh => ?_, set_w, if_neg fun hh => e (by have := hh.2; omega)]
      · exact h.w j hj
      · rcases hh.2 with h | h | h
        · omega
        · unfold oLk at h; omega
        · unfold oNd at h; omega
  · rcases List.mem_or_eq_of_mem_set hu with hu | hu
    · exact h.ok u hu hu0
    · exact absurd hu hu0
  · refine HX.del (x := cutN v 0 8) (hd := g.held l) (h.hx.perm ?_) fun j => ?_
    · have p1 : (had ++ cSlots C).Perm (cutN v 0 8 :: (had ++ cSlots (C.set i 0))) := (hp.append_left had).trans List.perm_middle
      exact (p1.cons 1).trans (List.Perm.swap _ _ _)
    · show (giveG B S gens (g.set l (18 + i) z) t l fs (cutN v 0 8)).held l j = _
      rw [give_held]
      by_cases e : j = cutN v 0 8
      · rw [if_pos ⟨rfl, e⟩, if_pos e]
      · rw [if_neg fun hh => e hh.2, if_neg e]; rfl
/-- At first. -/
theorem LbX.first (hS : 2 ≤ S) (hg : 1 ≤ gens) (l : Nat) : LbX S B gens 0 (gm0 B S) l (slotsFrom 2 (S - 1)) (List.replicate B 0) [] := by
  have hmem : ∀ i, i ∈ slotsFrom 2 (S - 1) ↔ 2 ≤ i ∧ i ≤ S := fun i => by
    unfold slotsFrom
    rw [List.mem_map]
    constructor
    · rintro ⟨y, hy, rfl⟩
      have := List.mem_range.1 hy
      omega
    · intro hh
      exact ⟨i - 2, List.mem_range.2 (by omega), by omega⟩
  refine ⟨⟨lvR_first hS l, fun x hx => ?_, fun i a b c => ?_⟩, List.length_replicate, fun i hi => ?_, fun v hv hv0 => absurd (List.eq_of_mem_replicate hv) hv0, ?_⟩
  · have := (hmem x).1 hx
    have e0 : (gm0 B S).w l (oNd B S x 0) = 0 := by
      show (w0 B S S (oNd B S x 0)).toNat = 0
      rw [w0_nd B S x (by omega), if_neg (by omega)]
    rw [e0]
    exact ⟨rfl, by have : genOf 0 = 0 := by decide
                   omega, fun j j1 j5 => w0_fld B S x j (by omega) j1 j5⟩
  · left
    have : i = 1 := by
      by_cases e : i = 1
      · exact e
      · exact absurd ((hmem i).2 ⟨by omega, b⟩) c
    subst this
    rfl
  · show (w0 B S S (18 + i)).toNat = _
    rw [List.getD_eq_getElem?_getD, List.getElem?_replicate, if_pos hi]
    unfold w0
    rw [if_neg (by omega), if_neg (by omega), if_neg (by omega), if_neg (by omega)]
    rfl
  · have e : cSlots (List.replicate B 0) = [] := by
      unfold cSlots
      rw [List.filter_replicate]
      simp
    rw [e]
    refine ⟨by simp, fun x hx => ?_, fun i a b => ?_⟩
    · have : x = 1 := by simpa using hx
      omega
    · show ((i == 1) = true) ↔ _
      simp
end
end
section
/-- A frame. -/
structure EpF where
  fn : Nat
  pc : Nat
  r0 : Nat
  r1 : Nat
structure EpG where
  ep : Nat → Nat
  act : Nat → Nat → Nat
  thr : Nat → Option EpF
  t0 : Nat → Nat
/-- A thread's announcement lags. -/
def lagsN (a e : Nat) : Bool := (a % 2 == 1) && (a != 2 * e + 1)
/-- The threads of a level. -/
def atL (T : Nat) (lev : Nat → Nat) (l : Nat) : List Nat := (List.range T).filter fun t => lev t == l
def EpG.go (g : EpG) (t : Nat) (F : EpF) : EpG := { g with thr := put1 g.thr t (some F) }
def EpG.back (g : EpG) (t a : Nat) : EpG := { g with thr := put1 g.thr t none, t0 := put1 g.t0 t a }
def EpG.setA (g : EpG) (l t a : Nat) : EpG := { g with act := put1 g.act l (put1 (g.act l) t a) }
def EpG.setE (g : EpG) (l e : Nat) : EpG := { g with ep := put1 g.ep l e }
def EpG.pin (g : EpG) (t l : Nat) (F : EpF) : EpG :=
  if F.pc = 0 then g.go t { F with r0 := g.ep l, pc := 1 }
  else if F.pc = 1 then (g.setA l t (2 * F.r0 + 1)).go t { F with pc := 2 }
  else g.back t (g.ep l)
def EpG.adv (al : List Nat) (g : EpG) (t l : Nat) (F : EpF) : EpG :=
  if F.pc = 0 then g.go t { F with r0 := g.ep l, pc := 1 }
  else if F.pc = 1 then
    (if lagsN (g.act l (al.getD F.r1 0)) F.r0 then g.back t 0
     else if F.r1 + 1 = al.length then g.go t { F with r1 := F.r1 + 1, pc := 2 } else g.go t { F with r1 := F.r1 + 1 })
  else (if g.ep l = F.r0 then (g.setE l (F.r0 + 1)).back t 1 else g.back t 0)
def EpG.next (al : List Nat) (g : EpG) (t l : Nat) (F : EpF) : EpG :=
  if F.fn = 10 then g.pin t l F else if F.fn = 11 then (g.setA l t 0).back t 0 else g.adv al t l F
/-- What holds of a thread's frame. -/
structure EpT (al : List Nat) (e : Nat) (ab : Nat → Bool × Nat) (is ins : Bool) (F : EpF) : Prop where
  fn : F.fn = 10 ∨ F.fn = 11 ∨ F.fn = 12
  pin : F.fn = 10 → F.pc ≤ 2 ∧ ins = false ∧ (F.pc < 2 → is = false) ∧ (F.pc = 2 → is = true) ∧ (F.pc = 1 → F.r0 ≤ e)
  unpin : F.fn = 11 → F.pc = 0 ∧ ins = true ∧ is = true
  adv : F.fn = 12 → F.pc ≤ 2 ∧ ins = is ∧ (1 ≤ F.pc → F.r0 ≤ e ∧ ∀ i y : Nat, i < F.r1 → al[i]? = some y → (ab y).1 = true → F.r0 ≤ (ab y).2) ∧ (F.pc ≤ 1 → F.r1 < al.length) ∧ (F.pc = 0 → F.r1 = 0) ∧ (F.pc = 2 → F.r1 = al.length)
/-- What always holds of a crowd. -/
structure EpI (T : Nat) (lev : Nat → Nat) (n : Nat) (g : EpG) (ab : Nat → Bool × Nat) (ins : Nat → Bool) : Prop where
  epb : ∀ l, g.ep l ≤ n + 2
  yes : ∀ t, t < T → (ab t).1 = true → (∃ e, g.act (lev t) t = 2 * e + 1 ∧ e ≤ (ab t).2) ∧ (ab t).2 ≤ g.ep (lev t) ∧ g.ep (lev t) ≤ (ab t).2 + 1
  no : ∀ t, t < T → (ab t).1 = false → g.act (lev t) t = 0
  thr : ∀ t, t < T → ∀ F, g.thr t = some F → EpT (atL T lev (lev t)) (g.ep (lev t)) ab (ab t).1 (ins t) F
  idle : ∀ t, t < T → g.thr t = none → ins t = (ab t).1
section
variable {T n t l : Nat} {lev : Nat → Nat} {g : EpG} {ab : Nat → Bool × Nat} {ins : Nat → Bool} {F : EpF}
theorem atL_of {y : Nat} (h : y < T) (e : lev y = l) : ∃ i : Nat, i < (atL T lev l).length ∧ (atL T lev l)[i]? = some y := by
  have hm : y ∈ atL T lev l := List.mem_filter.2 ⟨List.mem_range.2 h, by simpa using e⟩
  obtain ⟨i, hi⟩ := List.mem_iff_getElem?.1 hm
  exact ⟨i, (List.getElem?_eq_some_iff.1 hi).1, hi⟩
theorem atL_pos (h : t < T) : 0 < (atL T lev (lev t)).length := by
  obtain ⟨i, hi, _⟩ := atL_of (lev := lev) h rfl
  omega
/-- A thread that is within nothing begins a routine. -/
theorem EpI.call (h : EpI T lev n g ab ins) (ht : t < T) (h0 : g.thr t = none) (fn : Nat) (hf : fn = 10 ∧ ins t = false ∨ fn = 11 ∧ ins t = true ∨ fn = 12) : EpI T lev n (g.go t ⟨fn, 0, 0, 0⟩) ab ins := by
  refine ⟨h.epb, h.yes, h.no, fun u hu F hF => ?_, fun u hu hn => ?_⟩
  · have hF : put1 g.thr t (some ⟨fn, 0, 0, 0⟩) u = some F := hF
    by_cases e : u = t
    · subst e
      rw [put1_same] at hF
      cases hF
      have hi := h.idle u hu h0
      refine ⟨by rcases hf with ⟨a, _⟩ | ⟨a, _⟩ | a <;> simp [a], fun e => ?_, fun e => ?_, fun e => ?_⟩
      · rcases hf with ⟨_, a⟩ | ⟨a, _⟩ | a
        · exact ⟨Nat.zero_le _, a, fun _ => hi.symm.trans a, fun e => (nomatch (show (0 : Nat) = 2 from e)), fun e => (nomatch (show (0 : Nat) = 1 from e))⟩
        · have : fn = 10 := e; omega
        · have : fn = 10 := e; omega
      · rcases hf with ⟨a, _⟩ | ⟨_, a⟩ | a
        · have : fn = 11 := e; omega
        · exact ⟨rfl, a, hi.symm.trans a⟩
        · have : fn = 11 := e; omega
      · exact ⟨Nat.zero_le _, hi, fun e => absurd (show 1 ≤ 0 from e) (by decide), fun _ => atL_pos hu, fun _ => rfl, fun e => (nomatch (show (0 : Nat) = 2 from e))⟩
    · rw [put1_ne e] at hF; exact h.thr u hu F hF
  · have hn : put1 g.thr t (some ⟨fn, 0, 0, 0⟩) u = none := hn
    by_cases e : u = t
    · subst e; rw [put1_same] at hn; cases hn
    · rw [put1_ne e] at hn; exact h.idle u hu hn
/-- A thread's announcement, and the epoch, that the law notes behind a step. -/
def abN (lev : Nat → Nat) (t : Nat) (g g' : EpG) (ab : Nat → Bool × Nat) : Nat → Bool × Nat :=
  if g'.act (lev t) t = g.act (lev t) t then ab else put1 ab t (g'.act (lev t) t != 0, g'.ep (lev t))
def insN (t : Nat) (F : EpF) (g' : EpG) (ins : Nat → Bool) : Nat → Bool :=
  if (g'.thr t).isNone then (if F.fn = 10 then put1 ins t true else if F.fn = 11 then put1 ins t false else ins) else ins
theorem insN_ne {t u : Nat} {F : EpF} {g' : EpG} {ins : Nat → Bool} (hu : u ≠ t) : insN t F g' ins u = ins u := by
  unfold insN
  repeat' split
  all_goals first | rfl | exact put1_ne hu
/-- What a step of a crowd makes, and what the law asks of it. -/
structure EpN (T : Nat) (lev : Nat → Nat) (n t : Nat) (F : EpF) (g g' : EpG) (ab : Nat → Bool × Nat) (ins : Nat → Bool) : Prop where
  inv : EpI T lev (n + 1) g' (abN lev t g g' ab) (insN t F g' ins)
  oth : ∀ u, u ≠ t → g'.thr u = g.thr u
  ep : ∀ l, l ≠ lev t → g'.ep l = g.ep l
  up : g'.ep (lev t) = g.ep (lev t) ∨ g'.ep (lev t) = g.ep (lev t) + 1
  pin : F.fn = 10 → g'.thr t = none → (abN lev t g g' ab t).1 = true ∧ (g'.t0 t = (abN lev t g g' ab t).2 ∨ g'.t0 t = (abN lev t g g' ab t).2 + 1)
  unpin : F.fn = 11 → g'.thr t = none → (abN lev t g g' ab t).1 = false
/-- A frame is over, nothing else. -/
theorem EpI.over (h : EpI T lev n g ab ins) (ht : t < T) (hF : g.thr t = some F) (a : Nat) (h1 : F.fn = 10 → ins t = false ∧ (ab t).1 = true ∧ (a = (ab t).2 ∨ a = (ab t).2 + 1)) (h2 : F.fn ≠ 11) (h3 : F.fn = 12 → ins t = (ab t).1) (hfn : F.fn = 10 ∨ F.fn = 12) : EpN T lev n t F g (g.back t a) ab ins := by
  have e1 : abN lev t g (g.back t a) ab = ab := if_pos rfl
  have e2 : (g.back t a).thr t = none := put1_same _ _ _
  have e0 : (g.back t a).t0 t = a := put1_same _ _ _
  refine ⟨?_, fun u hu => put1_ne hu, fun _ _ => rfl, .inl rfl, fun e _ => (by rw [e1, e0]; exact (h1 e).2), fun e _ => absurd e h2⟩
  rw [e1]
  refine ⟨fun l => Nat.le_trans (h.epb l) (by omega), h.yes, h.no, fun u hu F' hF' => ?_, fun u hu hn => ?_⟩
  · have hF' : put1 g.thr t none u = some F' := hF'
    by_cases e : u = t
    · subst e; rw [put1_same] at hF'; cases hF'
    · rw [put1_ne e] at hF'
      rw [insN_ne e]; exact h.thr u hu F' hF'
  · by_cases e : u = t
    · subst e
      unfold insN
      rw [e2]
      simp only [Option.isNone_none, if_true]
      rcases hfn with hf | hf
      · rw [if_pos hf, put1_same]; exact (h1 hf).2.1.symm
      · rw [if_neg (by omega), if_neg (by omega)]; exact h3 hf
    · have hn : put1 g.thr t none u = none := hn
      rw [put1_ne e] at hn
      rw [insN_ne e]; exact h.idle u hu hn
theorem EpT.mono {al : List Nat} {e : Nat} {is ins : Bool} {ab ab2 : Nat → Bool × Nat} (h : EpT al e ab is ins F) {e2 : Nat} (he : e ≤ e2) (hab : ∀ i y : Nat, al[i]? = some y → (ab2 y).1 = true → (ab2 y = ab y) ∨ e ≤ (ab2 y).2) : EpT al e2 ab2 is ins F := by
  refine ⟨h.fn, fun f => ?_, h.unpin, fun f => ?_⟩
  · obtain ⟨a, b, c, d, e'⟩ := h.pin f
    exact ⟨a, b, c, d, fun p => Nat.le_trans (e' p) he⟩
  · obtain ⟨a, b, c, d, e', f'⟩ := h.adv f
    refine ⟨a, b, fun p => ⟨Nat.le_trans (c p).1 he, fun i y hi hy hab2 => ?_⟩, d, e', f'⟩
    rcases hab i y hy hab2 with h1 | h1
    · rw [h1] at hab2 ⊢; exact (c p).2 i y hi hy hab2
    · exact Nat.le_trans (c p).1 h1
/-- The epoch goes on. -/
theorem EpI.goes (h : EpI T lev n g ab ins) (ht : t < T) (hF : g.thr t = some F) (hf : F.fn = 12) (hp : F.pc = 2) (he : g.ep (lev t) = F.r0) : EpN T lev n t F g ((g.setE (lev t) (F.r0 + 1)).back t 1) ab ins := by
  obtain ⟨a1, a2, a3, a4, a5, a6⟩ := (h.thr t ht F hF).adv hf
  obtain ⟨_, a3⟩ := a3 (by omega)
  generalize hg : (g.setE (lev t) (F.r0 + 1)).back t 1 = g2
  have eact : g2.act = g.act := by rw [← hg]; rfl
  have eep : g2.ep (lev t) = g.ep (lev t) + 1 := by rw [← hg, he]; exact put1_same _ _ _
  have eepl : ∀ l, l ≠ lev t → g2.ep l = g.ep l := fun l hl => by rw [← hg]; exact put1_ne hl
  have ethr : g2.thr = put1 g.thr t none := by rw [← hg]; rfl
  have eab : abN lev t g g2 ab = ab := by unfold abN; rw [eact, if_pos rfl]
  have ein : insN t F g2 ins = ins := by simp [insN, ethr, put1_same, hf]
  have eepu : ∀ l, g.ep l ≤ g2.ep l := fun l => by
    by_cases e : l = lev t
    · subst e; omega
    · rw [eepl l e]; exact Nat.le_refl _
  refine ⟨?_, fun u hu => by rw [ethr]; exact put1_ne hu, eepl, .inr eep, fun e _ => absurd e (by omega), fun e _ => absurd e (by omega)⟩
  rw [eab, ein]
  refine ⟨fun l => ?_, fun u hu hy => ?_, fun u hu hy => by rw [eact]; exact h.no u hu hy, fun u hu F' hF' => ?_, fun u hu hn => ?_⟩
  · have := h.epb l
    by_cases e : l = lev t
    · subst e; omega
    · rw [eepl l e]; omega
  · obtain ⟨b1, b2, b3⟩ := h.yes u hu hy
    rw [eact]
    refine ⟨b1, Nat.le_trans b2 (eepu _), ?_⟩
    by_cases e : lev u = lev t
    · obtain ⟨i, hi, hiy⟩ := atL_of (lev := lev) hu e
      have := a3 i u (by rw [a6 hp]; exact hi) hiy hy
      rw [e, eep]; omega
    · rw [eepl _ e]; exact b3
  · rw [ethr] at hF'
    by_cases e : u = t
    · subst e; rw [put1_same] at hF'; cases hF'
    · rw [put1_ne e] at hF'
      exact (h.thr u hu F' hF').mono (eepu _) fun i y _ _ => .inl rfl
  · rw [ethr] at hn
    by_cases e : u = t
    · subst e; exact a2
    · rw [put1_ne e] at hn; exact h.idle u hu hn
end
end
section
open Go.RowKit
theorem info_int : (Tryz.prog.info? 3).map (fun i => (i.zero, i.size, i.bytes)) = some (some (.int .i64 0), 1, 8) := by kernel_rfl
theorem Has.box2 {σ w : World} {M : Mm} (h : Has σ M w) (o o' : Obj) : ∃ M', Has σ M' ((w.alloc o).alloc o') ∧ M.le M' ∧ M' w.heap.size = some o ∧ M' (w.heap.size + 1) = some o' ∧ M w.heap.size = none ∧ M (w.heap.size + 1) = none := by
 have ez : (w.alloc o).heap.size = w.heap.size + 1 := by simp
 have h1 := h.alloc o
 have h2 := h1.alloc o'
 have hf := h1.fresh
 rw [ez] at h2 hf
 exact ⟨_, h2, Mm.le_trans (Mm.le_upd' h.fresh _) (Mm.le_upd' hf _), Mm.le_upd' hf _ _ _ (Mm.upd_same _ _ _), Mm.upd_same _ _ _, h.fresh, Mm.none_of (Mm.le_upd' h.fresh o) hf⟩
end
section
open Go.RowKit
theorem twice_one (e : Nat) : (e * 2 ||| 1) = 2 * e + 1 := by
 apply Nat.eq_of_testBit_eq
 intro j
 rw [Nat.testBit_or, show 2 * e + 1 = 2 ^ 1 * e + 1 by omega, Nat.testBit_two_pow_mul_add _ (by decide), show e * 2 = 2 ^ 1 * e by omega, Nat.testBit_two_pow_mul]
 by_cases h : j < 1
 ·obtain rfl : j = 0 := by omega
  simp
 ·have h1 : Nat.testBit 1 j = false := Nat.testBit_lt_two_pow (Nat.lt_of_lt_of_le (show 1 < 2 ^ 1 by decide) (Nat.pow_le_pow_right (by decide) (by omega)))
  simp [h, h1]
  omega
theorem epActive_any (e : Nat) (he : e < 4611686018427387904) (w : World) : Calls Tryz.prog 128 #[.int .u64 e] w fun r w' => r = .returned (.int .u64 (2 * e + 1 : Nat)) ∧ w = w' := by
 have hs : IntKind.u64.wrap ((e : Int) * 2) = (e : Int) * 2 := IntWalk.u64_in _ (by omega)
 have B3 : bits .or .u64 ((e : Int) * 2) 1 = ((2 * e + 1 : Nat) : Int) := by
  rw [← twice_one e]
  exact bits_or_u64_nat (e * 2) 1 (by omega) (by decide)
 go_enter Tryz.func128, Tryz.ntmps128
 go_wp2
 go_ret
 exact ⟨by first | rfl | (simp only [B3]; rfl), rfl⟩
theorem int_neq (a b : Nat) : ((a : Int) != (b : Int)) = (a != b) := by
 rw [Bool.eq_iff_iff, bne_iff_ne, bne_iff_ne]
 exact ⟨fun h e => h (congrArg _ e), fun h e => h (Int.ofNat_inj.1 e)⟩
theorem epLags_any (a e : Nat) (ha : a < 18446744073709551616) (he : e < 4611686018427387904) (w : World) : Calls Tryz.prog 130 #[.int .u64 a, .int .u64 e] w fun r w' => r = .returned (.bool (lagsN a e)) ∧ w = w' := by
 have B0 : bits .and .u64 (a : Int) 1 = ((a % 2 : Nat) : Int) := by
  rw [← Nat.and_one_is_mod]
  exact bits_and_u64_nat a 1 ha (by decide)
 have AC := Lib.hid (epActive_any e he)
 obtain ⟨y, hy⟩ : ∃ y, 2 * e + 1 = y := ⟨_, rfl⟩
 rw [hy] at AC
 by_cases h1 : a % 2 = 1
 ·have L : Hid (lagsN a e = (a != y)) := Lib.hid (by unfold lagsN; rw [h1, hy]; rfl)
  rw [h1] at B0
  have B1 : bits .and .u64 (a : Int) 1 = 1 := B0
  have N := Lib.hid (int_neq a y)
  clear B0 h1 hy ha he
  go_enter Tryz.func130, Tryz.ntmps130
  go_wp2_with (first
   | (go_at_call 128; refine (AC.out _).mono ?_; rintro r w' ⟨rfl, rfl⟩))
  go_ret
  exact ⟨by rw [L.out, ← N.out]; rfl, rfl⟩
 ·have h0 : a % 2 = 0 := by omega
  have L : Hid (lagsN a e = false) := Lib.hid (by unfold lagsN; rw [h0]; rfl)
  rw [h0] at B0
  have B1 : bits .and .u64 (a : Int) 1 = 0 := B0
  clear B0 h1 h0 hy ha he
  go_enter Tryz.func130, Tryz.ntmps130
  go_wp2_with (first
   | (go_at_call 128; refine (AC.out _).mono ?_; rintro r w' ⟨rfl, rfl⟩))
  go_ret
  exact ⟨by rw [L.out]; rfl, rfl⟩
/-- The threads of a level, by a configuration's cells. -/
def atC (c : Nat → Int) (T lv : Nat) : List Nat := (List.range T).filter fun t => c (2 + t) == (lv : Int)
theorem atC_succ (c : Nat → Int) (k lv : Nat) : atC c (k + 1) lv = if c (2 + k) == (lv : Int) then atC c k lv ++ [k] else atC c k lv := by
 unfold atC
 rw [List.range_succ, List.filter_append]
 cases h : (c (2 + k) == (lv : Int)) <;> simp [h]
theorem atC_le (c : Nat → Int) (k lv : Nat) : (atC c k lv).length ≤ k := by
 unfold atC
 exact Nat.le_trans (List.length_filter_le _ _) (by simp)
section
variable {σ w : World} {M : Mm}
theorem atWant_eq (h : Has σ M w) {bl : Nat} {lv x : Int} (hb : M bl = some (.cells #[.int .i64 lv] 3)) : Calls Tryz.prog 137 #[.int .i64 x, .pointer (some ⟨bl, 0, none⟩)] w fun r w' => r = .returned (.bool (x == lv)) ∧ Has σ M w' := by
 have e0 : (#[.int .i64 lv] : Array Value)[0]? = some (.int .i64 lv) := rfl
 go_enter Tryz.func137, Tryz.ntmps137
 go_wp2_with (first
  | (with_reducible show wpList _ _ _ ({ dst := _, op := Op.load 3 _, type := _, pos := _, after := _, guard := _ } :: _) _ _; refine wpList_load1_has h rfl 3 _ rfl rfl hb e0 Tryz.underlying3 rfl ?_))
 go_ret
 exact ⟨rfl, h⟩
set_option maxHeartbeats 2000000 in
set_option maxRecDepth 20000 in
theorem confThose_eq (h : Has σ M w) (c : Nat → Int) (hm : confMayB c = true) {T : Nat} (hT : c 1 = (T : Nat)) {lv bl : Nat} (hb : M bl = some (.cells #[.int .i64 (lv : Nat)] 3)) : Calls Tryz.prog 136 #[confV c, .func (.func 137) #[] #[.pointer (some ⟨bl, 0, none⟩)]] w fun r w' => ∃ v, r = .returned v ∧ Acc σ M w' 3 1 v (atC c T lv).length (natv (atC c T lv)) := by
 have hc := confMay_of hm
 have hT8 : 1 ≤ T ∧ T ≤ 8 := by have := hc.2.1; omega
 have hx : (ints .i64 14 c).extract 0 (0 + 14) = ints .i64 14 c := rfl
 have hz : (ints .i64 14 c).size = 14 := rfl
 have r1 : (ints .i64 14 c)[1]? = some (.int .i64 (T : Nat)) := by rw [← hT]; rfl
 have MY : Hid (∀ (M' : Mm) (w : World), Has σ M' w → Calls Tryz.prog 84 #[confV c] w fun e w' => e = .returned (.bool (confMayB c)) ∧ Has σ M' w') := Lib.hid fun M' w h => (confMay_any c w).mono fun e w' ⟨h1, h2⟩ => ⟨h1, h.below h2⟩
 rw [hm] at MY
 have G : Hid (∀ t, t < T → (ints .i64 14 c)[2 + t]? = some (.int .i64 (c (2 + t)))) := Lib.hid fun t ht => ints_get (by omega)
 unfold confV at MY ⊢
 generalize ints .i64 14 c = row at *
 clear hm hc hT
 go_enter Tryz.func136, Tryz.ntmps136
 go_upto_region 1 with (fail)
 obtain ⟨M1, hbx, hle, hbf, hnf⟩ := h.box (.cells row 24)
 generalize w.alloc _ = wx at hbx ⊢
 generalize w.heap.size = bf at hbf hnf ⊢
 clear h
 try clear w
 have h := hbx
 clear hbx
 obtain ⟨w, rfl⟩ : ∃ x : World, x = wx := ⟨_, rfl⟩
 have hbl := hle _ _ hb
 go_upto_region 5 with (first
  | ((with_reducible show wpList _ _ _ ({ dst := _, op := Op.load 24 _, type := _, pos := _, after := _, guard := _ } :: _) _ _); refine wpList_agg_has h rfl 24 _ rfl rfl hbf hx hz Tryz.underlying24 rfl (by kernel_rfl) ?_; try simp only [Act.put, qD, qE, qF])
  | (go_at_call 84; refine (MY.out _ _ h).mono ?_; clear h; rintro _ w ⟨rfl, h⟩)
  | (with_reducible show wpList _ _ _ ({ dst := _, op := Op.load 3 _, type := _, pos := _, after := _, guard := _ } :: _) _ _; refine wpList_load1_has h rfl 3 _ rfl rfl hbf r1 Tryz.underlying3 rfl ?_))
 go_loopw [5, 6, 12] (fun o _ u wr => ∃ k : Nat, k ≤ T ∧ u = .int .i64 (k : Nat) ∧ Acc σ M1 wr 3 1 o (atC c k lv).length (natv (atC c k lv))) (fun _ _ u _ => T - (intOf u).toNat)
 case atStart => exact ⟨0, Nat.zero_le _, rfl, Acc.nil h _ _⟩
 case round =>
  clear h w
  obtain ⟨w, rfl⟩ : ∃ x : World, x = wr := ⟨_, rfl⟩
  obtain ⟨k, hk, rfl, M2, h, hle2, hown⟩ := hrel
  have hbf2 := hle2 _ _ hbf
  have hbl2 := hle2 _ _ hbl
  obtain ⟨Ao, co, rfl⟩ := hown.form
  by_cases hlt : k < T
  ·have gk := G.out k hlt
   have hlt' : (k : Int) < (T : Int) := by omega
   have hk8 : (k : Int) < 8 := by omega
   have wk : IntKind.i64.wrap ((k : Int) + 1) = ((k + 1 : Nat) : Int) := by rw [show (k : Int) + 1 = ((k + 1 : Nat) : Int) by omega]; exact IntWalk.i64_in _ (by omega)
   have WT := Lib.hid (fun (w : World) (h : Has σ M2 w) => atWant_eq (x := c (2 + k)) h hbl2)
   have SU := Lib.hid (atC_succ c k lv)
   have HLT := Lib.hid hlt
   have hle8 := atC_le c k lv
   clear hlt hk
   obtain ⟨b, hbb⟩ : ∃ b : Bool, (c (2 + k) == (lv : Int)) = b := ⟨_, rfl⟩
   rw [hbb] at WT SU
   clear hbb
   generalize hal : atC c k lv = al at *
   clear hal
   obtain ⟨nl, hnl⟩ : ∃ nl, al.length = nl := ⟨_, rfl⟩
   rw [hnl] at hown hle8
   have HNL := Lib.hid hnl
   rw [hnl]
   clear hnl
   cases b
   ·go_wp2_with (first
     | (with_reducible show wpList _ _ _ ({ dst := _, op := Op.load 3 _, type := _, pos := _, after := _, guard := _ } :: _) _ _; refine wpList_load1_has h rfl 3 _ rfl rfl hbf2 gk Tryz.underlying3 rfl ?_)
     | ((go_at_call 137; refine (WT.out _ h).mono ?_; clear h; rintro _ w ⟨rfl, h⟩)))
    go_roundw
    case rel => exact ⟨k + 1, by have := HLT.out; omega, by go_num, by rw [SU.out, if_neg (by decide), HNL.out]; exact ⟨M2, h, hle2, hown⟩⟩
    case measure => have := HLT.out; simp [intOf]; omega
   ·go_wp2_with (first
     | (with_reducible show wpList _ _ _ ({ dst := _, op := Op.load 3 _, type := _, pos := _, after := _, guard := _ } :: _) _ _; refine wpList_load1_has h rfl 3 _ rfl rfl hbf2 gk Tryz.underlying3 rfl ?_)
     | ((go_at_call 137; refine (WT.out _ h).mono ?_; clear h; rintro _ w ⟨rfl, h⟩))
     | (at_builtin; refine wpList_append_lit h hle2 rfl _ _ _ rfl rfl Tryz.underlying47 info_int rfl (by omega) rfl hown rfl rfl rfl (by omega) (by omega) ?_; clear h hle2 hown; intro v w hacc))
    go_roundw
    case rel => exact ⟨k + 1, by have := HLT.out; omega, by go_num, by rw [SU.out, if_pos (by decide), natv_snoc', List.length_append, HNL.out]; exact hacc⟩
    case measure => have := HLT.out; simp [intOf]; omega
  ·obtain rfl : k = T := by omega
   have hlt' : ¬ (k : Int) < (k : Int) := by omega
   go_wp2
   go_ret
   exact ⟨_, rfl, M2, h, Mm.le_trans hle hle2, hown.base fun b hb => Mm.none_of hle hb⟩
theorem confAt_eq (h : Has σ M w) (c : Nat → Int) (hm : confMayB c = true) {T : Nat} (hT : c 1 = (T : Nat)) (lv : Nat) : Calls Tryz.prog 129 #[confV c, .int .i64 (lv : Nat)] w fun r w' => ∃ v, r = .returned v ∧ Acc σ M w' 3 1 v (atC c T lv).length (natv (atC c T lv)) := by
 have hx : (ints .i64 14 c).extract 0 (0 + 14) = ints .i64 14 c := rfl
 have hz : (ints .i64 14 c).size = 14 := rfl
 have TH := Lib.hid (fun (M' : Mm) (w : World) (bl : Nat) (h : Has σ M' w) (hb : M' bl = some (.cells #[.int .i64 (lv : Nat)] 3)) => confThose_eq h c hm hT hb)
 unfold confV at TH ⊢
 generalize ints .i64 14 c = row at *
 generalize natv (atC c T lv) = xs at *
 generalize (atC c T lv).length = nl at *
 clear hm hT
 go_enter Tryz.func129, Tryz.ntmps129
 go_upto_region 1 with (fail)
 obtain ⟨M', hbx, hle, hb1, hb2, hn1, hn2⟩ := h.box2 (.cells row 24) (.cells #[.int .i64 (lv : Nat)] 3)
 generalize (w.alloc _).alloc _ = wx at hbx ⊢
 have hne_b1_b2 : w.heap.size ≠ w.heap.size + 1 := Nat.ne_of_lt (Nat.lt_succ_self _)
 generalize w.heap.size + 1 = b2 at hb2 hn2 hne_b1_b2 ⊢
 generalize w.heap.size = b1 at hb1 hn1 hne_b1_b2 ⊢
 clear h
 try clear w
 have h := hbx
 clear hbx
 obtain ⟨w, rfl⟩ : ∃ x : World, x = wx := ⟨_, rfl⟩
 go_wp2_with (first
  | ((with_reducible show wpList _ _ _ ({ dst := _, op := Op.load 24 _, type := _, pos := _, after := _, guard := _ } :: _) _ _); refine wpList_agg_has h rfl 24 _ rfl rfl hb1 hx hz Tryz.underlying24 rfl (by kernel_rfl) ?_; try simp only [Act.put, qD, qE, qF])
  | ((go_at_call 136; refine (TH.out _ _ _ h hb2).mono ?_; clear h; rintro _ w ⟨v, rfl, M5, h, hle5, hown⟩)))
 go_ret
 exact ⟨v, rfl, M5, h, Mm.le_trans hle hle5, hown.base fun b hb => Mm.none_of hle hb⟩
end
end
section
open Go.RowKit
section
variable {σ w : World} {M : Mm} {p t q b : Nat}
theorem epEpoch_eq (h : Has σ M w) {r : Int} (SP : SpotAt σ M p t 1 0 0 r) : Calls Tryz.prog 131 #[.agg (runC p t q b)] w fun e w' => e = .returned (.int .i64 r) ∧ Has σ M w' := by
 have d0 : (runC p t q b)[0]? = some (.pointer (some ⟨p, 0, none⟩)) := rfl
 have d1 : (runC p t q b)[1]? = some (.int .i64 (t : Nat)) := rfl
 have d2 : (runC p t q b)[2]? = some (.pointer (some ⟨q, 0, none⟩)) := rfl
 have d3 : (runC p t q b)[3]? = some (.pointer (some ⟨b, 0, none⟩)) := rfl
 have dx : (runC p t q b).extract 0 (0 + 4) = runC p t q b := rfl
 have dz : (runC p t q b).size = 4 := rfl
 go_enter Tryz.func131, Tryz.ntmps131
 go_upto_region 1 with (fail)
 obtain ⟨M1, hbx, hle, hb4, hn⟩ := h.box (.cells (runC p t q b) 170)
 generalize w.alloc _ = wx at hbx ⊢
 generalize w.heap.size = b4 at hb4 hn ⊢
 clear h
 try clear w
 have h := hbx
 clear hbx
 obtain ⟨w, rfl⟩ : ∃ x : World, x = wx := ⟨_, rfl⟩
 have SP1 := Lib.hid (fun (w : World) (h : Has σ M1 w) => SP M1 w hle h)
 clear SP
 generalize runC p t q b = rc at *
 go_wp2_with (first
  | (with_reducible show wpList _ _ _ ({ dst := _, op := Op.load 26 _, type := _, pos := _, after := _, guard := _ } :: _) _ _; refine wpList_load1_has h rfl 26 _ rfl rfl hb4 d0 Tryz.underlying26 rfl ?_)
  | (with_reducible show wpList _ _ _ ({ dst := _, op := Op.load 3 _, type := _, pos := _, after := _, guard := _ } :: _) _ _; refine wpList_load1_has h rfl 3 _ rfl rfl hb4 d1 Tryz.underlying3 rfl ?_)
  | (go_at_call 120; refine (SP1.out _ h).mono ?_; clear h; rintro _ w ⟨rfl, h⟩))
 go_ret
 exact ⟨rfl, h.le hle⟩
theorem epAt_eq (h : Has σ M w) {i r : Int} (SP : SpotAt σ M p t 6 i 0 r) : Calls Tryz.prog 127 #[.agg (runC p t q b), .int .i64 i] w fun e w' => e = .returned (.int .i64 r) ∧ Has σ M w' := by
 have d0 : (runC p t q b)[0]? = some (.pointer (some ⟨p, 0, none⟩)) := rfl
 have d1 : (runC p t q b)[1]? = some (.int .i64 (t : Nat)) := rfl
 have d2 : (runC p t q b)[2]? = some (.pointer (some ⟨q, 0, none⟩)) := rfl
 have d3 : (runC p t q b)[3]? = some (.pointer (some ⟨b, 0, none⟩)) := rfl
 have dx : (runC p t q b).extract 0 (0 + 4) = runC p t q b := rfl
 have dz : (runC p t q b).size = 4 := rfl
 go_enter Tryz.func127, Tryz.ntmps127
 go_upto_region 1 with (fail)
 obtain ⟨M1, hbx, hle, hb4, hn⟩ := h.box (.cells (runC p t q b) 170)
 generalize w.alloc _ = wx at hbx ⊢
 generalize w.heap.size = b4 at hb4 hn ⊢
 clear h
 try clear w
 have h := hbx
 clear hbx
 obtain ⟨w, rfl⟩ : ∃ x : World, x = wx := ⟨_, rfl⟩
 have SP1 := Lib.hid (fun (w : World) (h : Has σ M1 w) => SP M1 w hle h)
 clear SP
 generalize runC p t q b = rc at *
 go_wp2_with (first
  | (with_reducible show wpList _ _ _ ({ dst := _, op := Op.load 26 _, type := _, pos := _, after := _, guard := _ } :: _) _ _; refine wpList_load1_has h rfl 26 _ rfl rfl hb4 d0 Tryz.underlying26 rfl ?_)
  | (with_reducible show wpList _ _ _ ({ dst := _, op := Op.load 3 _, type := _, pos := _, after := _, guard := _ } :: _) _ _; refine wpList_load1_has h rfl 3 _ rfl rfl hb4 d1 Tryz.underlying3 rfl ?_)
  | (go_at_call 120; refine (SP1.out _ h).mono ?_; clear h; rintro _ w ⟨rfl, h⟩))
 go_ret
 exact ⟨rfl, h.le hle⟩
end
theorem row_reg0 (f : FrameS) (v : Int) : f.row.setIfInBounds 2 (.int .u64 v) = (f.reg 0 v).row := rfl
set_option maxHeartbeats 2000000 in
set_option maxRecDepth 20000 in
/-- The epoch is read. -/
theorem epNow_eq {σ w : World} {K M : Mm} {lab : Nat → Nat} {p t q b : Nat} {s : MachS} {fs : List FrameS} {f : FrameS} (h : Has σ M w) (hT : AtTop K M lab p s t q b fs f) {a : Int} (SP : SpotAt σ M p t 1 0 0 a) (hb1 : s.mem.acc < 1000000000) :
  Calls Tryz.prog 126 #[.agg (runC p t q b)] w fun r w' => r = .returned (.int .u64 (s.mem.load a)) ∧ Has σ (M.upd s.mp (.cells (s.mem.at_ a).cells 146)) w' := by
 have d0 : (runC p t q b)[0]? = some (.pointer (some ⟨p, 0, none⟩)) := rfl
 have d1 : (runC p t q b)[1]? = some (.int .i64 (t : Nat)) := rfl
 have d2 : (runC p t q b)[2]? = some (.pointer (some ⟨q, 0, none⟩)) := rfl
 have d3 : (runC p t q b)[3]? = some (.pointer (some ⟨b, 0, none⟩)) := rfl
 have dx : (runC p t q b).extract 0 (0 + 4) = runC p t q b := rfl
 have dz : (runC p t q b).size = 4 := rfl
 obtain ⟨v, hvv⟩ : ∃ v, s.mem.load a = v := ⟨_, rfl⟩
 rw [hvv]
 go_enter Tryz.func126, Tryz.ntmps126
 go_upto_region 1 with (fail)
 obtain ⟨M1, hbx, hle, hb4, hn⟩ := h.box (.cells (runC p t q b) 170)
 generalize w.alloc _ = wx at hbx ⊢
 generalize w.heap.size = b4 at hb4 hn ⊢
 clear h
 try clear w
 have h := hbx
 clear hbx
 obtain ⟨w, rfl⟩ : ∃ x : World, x = wx := ⟨_, rfl⟩
 obtain ⟨lab1, hT1⟩ := hT.more1 hle hn hb4
 have hnK : K b4 = none := by
  cases e : K b4 with
  | none => rfl
  | some o => have := (hT.base _ _ e).1; rw [hn] at this; cases this
 have hKK : K.le (K.upd b4 (.cells (runC p t q b) 170)) := Mm.le_upd' hnK _
 have hbK : (K.upd b4 (.cells (runC p t q b) 170)) b4 = some (.cells (runC p t q b) 170) := Mm.upd_same _ _ _
 have hfb := hT1.obj
 have EP := Lib.hid (fun (w : World) (h : Has σ M1 w) => epEpoch_eq (q := q) (b := b) h (SP.le hle))
 have ME := Lib.hid (fun (w : World) (h : Has σ M1 w) => mMem_eq h hT1.mach)
 have LD := Lib.hid (fun (w : World) (h : Has σ M1 w) => memLoad_eq h hT1.mach.mem hb1 a)
 rw [hvv] at LD
 have HLE := Lib.hid (Mm.upd_mono hle s.mp (.cells (s.mem.at_ a).cells 146))
 clear hvv hT hT1 SP hb1 hn hle hnK hKK hbK hfb
 generalize runC p t q b = rc at *
 generalize M1.upd s.mp _ = M3 at HLE LD
 refine wp_region_head (Has σ M1) 5 (by kernel_rfl) (by kernel_rfl) (fun _ _ _ _ _ h => h) h.drew ?_
 clear h
 simp only [List.take_succ_cons, List.take_zero, List.drop_succ_cons, List.drop_zero]
 repeat (first
  | go_big_quiet_skip
  | (go_big_quiet_want; first
   | (refine quiet_load_has 26 _ rfl rfl hb4 d0 Tryz.underlying26 rfl ?_; simp only [Act.put, qD, qE, qF]; go_big_quiet_on)
   | (refine quiet_agg_has 170 _ rfl rfl hb4 dx dz Tryz.underlying170 rfl (by kernel_rfl) ?_; simp only [Act.put, qD, qE, qF]; go_big_quiet_on)
   | (go_big_quiet_op; first | go_big_quiet_on | go_big_quiet_call (first | with_reducible exact fun _ => rfl | with_reducible exact ME.out _ | with_reducible exact EP.out _))))
 refine wpQuiet_nil ?_
 try clear w
 intro w h
 go_wp2_with (first
  | (go_at_call 94; refine (LD.out _ h).mono ?_; clear h; rintro _ w ⟨rfl, h⟩))
 go_ret
 exact ⟨rfl, h.le HLE.out⟩
end
section
open Go.RowKit
theorem AtTop.more {K M M' : Mm} {lab : Nat → Nat} {p t q b : Nat} {s : MachS} {fs : List FrameS} {f : FrameS} (h : AtTop K M lab p s t q b fs f) (hle : M.le M') : AtTop K M' (relab M lab fun _ => 0) p s t q b fs f :=
 h.keep (Kp.le hle fun _ => 0) (fun _ _ h => h) (h.mach.keep (Kp.le hle fun _ => 0) fun _ _ h => h) (h.base.keep (Kp.le hle fun _ => 0) fun h => h) rfl rfl
set_option maxHeartbeats 4000000 in
set_option maxRecDepth 20000 in
/-- Advance reads the epoch. -/
theorem adv_0 {σ w : World} {K M : Mm} {lab : Nat → Nat} {p t q b : Nat} {s : MachS} {fs : List FrameS} {f : FrameS} (h : Has σ M w) (hT : AtTop K M lab p s t q b fs f) (hat : f.at_ = 0) {lv : Nat} (hlv : levelOf s.c (t : Nat) = (lv : Nat)) {T : Nat} (hT1c : s.c 1 = (T : Nat)) {a : Int} (SP : SpotAt σ M p t 1 0 0 a) (hb1 : s.mem.acc < 1000000000) :
  Calls Tryz.prog 104 #[.agg (runC p t q b)] w fun r w' => r = .returned (.tuple #[]) ∧ ∃ M' lab', Has σ M' w' ∧ AtTop K M' lab' p (MachS.top { s with mem := s.mem.at_ a } t fs ((f.reg 0 (s.mem.load a)).goto 1)) t q b fs ((f.reg 0 (s.mem.load a)).goto 1) := by
 obtain ⟨v, hvv⟩ : ∃ v, s.mem.load a = v := ⟨_, rfl⟩
 rw [hvv]
 have d0 : (runC p t q b)[0]? = some (.pointer (some ⟨p, 0, none⟩)) := rfl
 have d1 : (runC p t q b)[1]? = some (.int .i64 (t : Nat)) := rfl
 have d2 : (runC p t q b)[2]? = some (.pointer (some ⟨q, 0, none⟩)) := rfl
 have d3 : (runC p t q b)[3]? = some (.pointer (some ⟨b, 0, none⟩)) := rfl
 have dx : (runC p t q b).extract 0 (0 + 4) = runC p t q b := rfl
 have dz : (runC p t q b).size = 4 := rfl
 have f1 : f.row[1]? = some (.int .i64 0) := by rw [← hat]; rfl
 go_enter Tryz.func104, Tryz.ntmps104
 go_upto_region 1 with (fail)
 obtain ⟨M1, hbx, hle, hb4, hn⟩ := h.box (.cells (runC p t q b) 170)
 generalize w.alloc _ = wx at hbx ⊢
 generalize w.heap.size = b4 at hb4 hn ⊢
 clear h
 try clear w
 have h := hbx
 clear hbx
 obtain ⟨w, rfl⟩ : ∃ x : World, x = wx := ⟨_, rfl⟩
 obtain ⟨lab1, hT1⟩ := hT.more1 hle hn hb4
 have hnK : K b4 = none := by
  cases e : K b4 with
  | none => rfl
  | some o => have := (hT.base _ _ e).1; rw [hn] at this; cases this
 have hKK : K.le (K.upd b4 (.cells (runC p t q b) 170)) := Mm.le_upd' hnK _
 have hbK : (K.upd b4 (.cells (runC p t q b) 170)) b4 = some (.cells (runC p t q b) 170) := Mm.upd_same _ _ _
 have hfb := hT1.obj
 have PL := Lib.hid (fun (w : World) (h : Has σ M1 w) => mPlan_eq h hT1.mach)
 have CF := Lib.hid (fun (w : World) (h : Has σ M1 w) => conf_has h s.c hT1.mach.plan)
 have LV : Hid (∀ w : World, Has σ M1 w → Calls Tryz.prog 12 #[.pointer (some ⟨p, 0, none⟩), .int .i64 (t : Nat)] w fun r w' => r = .returned (.int .i64 (lv : Nat)) ∧ Has σ M1 w') := Lib.hid fun w h => (mLevel_eq h hT1.mach t).mono fun r w' ⟨e, h'⟩ => ⟨e.trans (congrArg (fun z => Ending.returned (Value.int .i64 z)) hlv), h'⟩
 have AT := Lib.hid (fun (w : World) (h : Has σ M1 w) => confAt_eq h s.c (decide_eq_true hT.mach.may) hT1c lv)
 have HT1 := Lib.hid hT1
 have HSP := Lib.hid (fun (M' : Mm) (hle' : M1.le M') => SP.le (Mm.le_trans hle hle'))
 have HVV := Lib.hid hvv
 have HB1 := Lib.hid hb1
 have HKK := Lib.hid hKK
 have hrow0 : (f.reg 0 v).row = f.row.setIfInBounds 2 (.int .u64 v) := (row_reg0 f v).symm
 clear hvv hT hT1 SP hb1 hn hle hnK hKK hat hT1c hlv hrow0
 generalize hrc : runC p t q b = rc at *
 have HRC := Lib.hid hrc
 clear hrc
 generalize hr0 : f.row = fr0 at *
 have HR0 := Lib.hid hr0
 clear hr0
 generalize K.upd b4 _ = K1 at *
 unfold confV at AT
 generalize ints .i64 14 s.c = crow at *
 go_upto_region 2 with (first
  | (with_reducible show wpList _ _ _ ({ dst := _, op := Op.load 70 _, type := _, pos := _, after := _, guard := _ } :: _) _ _; refine wpList_load1_has h rfl 70 _ rfl rfl hb4 d3 Tryz.underlying70 rfl ?_))
 refine wp_region_head (Has σ M1) 9 (by kernel_rfl) (by kernel_rfl) (fun _ _ _ _ _ h => h) h.drew ?_
 clear h
 simp only [List.take_succ_cons, List.take_zero, List.drop_succ_cons, List.drop_zero]
 repeat (first
  | go_big_quiet_skip
  | (go_big_quiet_want; first
   | (refine quiet_load_has 26 _ rfl rfl hb4 d0 Tryz.underlying26 rfl ?_; simp only [Act.put, qD, qE, qF]; go_big_quiet_on)
   | (refine quiet_load_has 3 _ rfl rfl hb4 d1 Tryz.underlying3 rfl ?_; simp only [Act.put, qD, qE, qF]; go_big_quiet_on)
   | (go_big_quiet_op; first | go_big_quiet_on | go_big_quiet_call (first | with_reducible exact fun _ => rfl | with_reducible exact PL.out _ | with_reducible exact CF.out _ | with_reducible exact LV.out _))))
 refine wpQuiet_nil ?_
 try clear w
 intro w h
 clear PL CF LV
 go_upto_region 3 with (first
  | ((go_at_call 129; refine (AT.out _ h).mono ?_; clear h; rintro _ w ⟨v3, rfl, M2, h, hle2, hown⟩)))
 have hT2 := HT1.out.more hle2
 have NW := Lib.hid (fun (w : World) (h : Has σ M2 w) => epNow_eq h hT2 (HSP.out M2 hle2) HB1.out)
 rw [HVV.out, HRC.out] at NW
 have KL := hT2.base.le
 have hT3 := hT2.load a
 have KE := hT3.base.le
 obtain ⟨hfb2, hT4⟩ := hT3.frame (f.reg 0 v)
 have KS := hT4.base.le
 obtain ⟨hfb3, hT5⟩ := hT4.frame ((f.reg 0 v).goto 1)
 rw [MachS.top_top, Mm.upd_upd] at hT5
 have HT := Lib.hid (hT5.less HKK.out)
 have hsz : 2 < f.row.size := show 2 < 18 by omega
 have hsz3 : 1 < (f.reg 0 v).row.size := show 1 < 18 by omega
 have R1 := Lib.hid (row_reg0 f v)
 have R2 := Lib.hid (row_goto (f.reg 0 v) 1)
 rw [HR0.out] at hfb2 hsz R1
 replace hfb := hle2 _ _ hfb
 obtain ⟨A3, c3, rfl⟩ := hown.form
 clear hT2 hT3 hT4 hT5 hown HT1 HSP HVV HB1 HKK HRC HR0 hle2 AT
 generalize hr1 : (f.reg 0 v).row = fr1 at *
 generalize hr2 : ((f.reg 0 v).goto 1).row = fr2 at *
 clear hr1 hr2
 generalize M2.upd s.mp _ = M3 at *
 go_upto_region 9 with (first
  | (with_reducible show wpList _ _ _ ({ dst := _, op := Op.load 3 _, type := _, pos := _, after := _, guard := _ } :: _) _ _; refine wpList_load1_has h rfl 3 _ rfl rfl hfb f1 Tryz.underlying3 rfl ?_))
 clear hfb
 refine wp_region_held_drew (S := Has σ (K1)) (by kernel_rfl) (h.drew.le KL) (fun hHeld => ?_)
 refine wpAnyH_take (i := 0) (v := ?_) rfl (by kernel_rfl) (by kernel_rfl) (by kernel_rfl) (fun _ _ _ h => h) (Or.inl ⟨by rfl, ?_⟩) hHeld ?_
 rotate_left
 ·(intro wz _; go_simp; try with_reducible rfl)
 try simp only [qA, qB, qC, Act.put, qD, qE, qF]
 refine wpAnyH_take (i := 1) (v := _) rfl (by kernel_rfl) (by kernel_rfl) (by kernel_rfl) (fun _ _ _ h => h) (yields_agg rfl 170 _ rfl rfl hbK dx dz Tryz.underlying170 rfl (by kernel_rfl)) hHeld ?_
 try simp only [qA, qB, qC, Act.put, qD, qE, qF]
 refine wpAnyH_take (i := 3) (v := ?_) rfl (by kernel_rfl) (by kernel_rfl) (by kernel_rfl) (fun _ _ _ h => h) (Or.inl ⟨by rfl, ?_⟩) hHeld ?_
 rotate_left
 ·(intro wz _; go_simp; try with_reducible rfl)
 try simp only [qA, qB, qC, Act.put, qD, qE, qF]
 refine wpAnyH_take (i := 4) (v := ?_) rfl (by kernel_rfl) (by kernel_rfl) (by kernel_rfl) (fun _ _ _ h => h) (Or.inl ⟨by rfl, ?_⟩) hHeld ?_
 rotate_left
 ·(intro wz _; go_simp; try with_reducible rfl)
 try simp only [qA, qB, qC, Act.put, qD, qE, qF]
 replace h := h.drew
 generalize w.drew = w1 at h hHeld ⊢
 clear w
 obtain ⟨w, rfl⟩ : ∃ q : World, q = w1 := ⟨_, rfl⟩
 refine wpAnyH_ready (rs := [2]) (by kernel_rfl) (by simp) ?_
 refine AllReadyH.cons rfl (fun K hK => ?_) AllReadyH.nil
 (go_simp; go_wp2_with (go_at_call 126; refine (NW.out _ h).mono ?_; clear h; rintro _ w ⟨rfl, h⟩))
 refine hK.out _ _ (h.le KE) (fun hHeld => ?_)
 clear hK K
 try simp only [Act.put, qD, qE, qF]
 refine wpAnyH_take (i := 5) (v := ?_) rfl (by kernel_rfl) (by kernel_rfl) (by kernel_rfl) (fun _ _ _ h => h) (Or.inl ⟨by rfl, ?_⟩) hHeld ?_
 rotate_left
 ·(intro wz _; go_simp; try with_reducible rfl)
 try simp only [qA, qB, qC, Act.put, qD, qE, qF]
 refine wpAnyH_ready (rs := [6]) (by kernel_rfl) (by simp) ?_
 refine AllReadyH.cons rfl (fun K hK => ?_) AllReadyH.nil
 (refine step_store1 (v := .int .u64 v) h rfl 42 _ _ rfl rfl rfl hfb2 hsz rfl rfl (by kernel_rfl) ?_; clear h; intro w h; rw [R1.out] at h)
 refine hK.out _ _ (h.le KS) (fun hHeld => ?_)
 clear hK K
 try simp only [Act.put, qD, qE, qF]
 refine wpAnyH_done (by kernel_rfl) ?_ _
 clear hHeld
 generalize hM4 : M3.upd b (.cells fr1 69) = M4 at h hfb3 KS
 go_wp2_with (first
  | (with_reducible show wpList _ _ _ ({ dst := _, op := Op.store 3 _ _, type := _, pos := _, after := _, guard := _ } :: _) _ _; refine wpList_store1_has h rfl 3 _ _ rfl rfl rfl hfb3 hsz3 rfl (by kernel_rfl) ?_; clear h; intro w h))
 go_end0
 refine ⟨rfl, _, _, ?_, HT.out⟩
 have h0 : Has σ (M3.upd b (.cells (fr1.setIfInBounds 1 (.int .i64 1)) 69)) w := by rw [← hM4, Mm.upd_upd] at h; exact h
 rw [R2.out] at h0
 exact h0
theorem row_regv (f : FrameS) (v : Int) : f.row.setIfInBounds 3 (.int .u64 v) = (f.reg 1 v).row := rfl
set_option maxHeartbeats 4000000 in
set_option maxRecDepth 20000 in
/-- The next thread, of several. -/
theorem adv_1on {σ w : World} {K M : Mm} {lab : Nat → Nat} {p t q b : Nat} {s : MachS} {fs : List FrameS} {f : FrameS} (h : Has σ M w) (hT : AtTop K M lab p s t q b fs f) (hat : f.at_ = 1) {lv : Nat} (hlv : levelOf s.c (t : Nat) = (lv : Nat)) {T : Nat} (hT1c : s.c 1 = (T : Nat)) {al : List Nat} (hal : atC s.c T lv = al) {x r y z : Nat} (hx : f.r 0 = (x : Int)) (hx62 : x < 4611686018427387904) (hr : f.r 1 = (r : Int)) (hr8 : r < 8) (hy : al[r]? = some y) {a : Int} (SP : SpotAt σ M p t 6 (y : Nat) 0 a) (hz : s.mem.load a = (z : Int)) (hz64 : z < 18446744073709551616) (hb1 : s.mem.acc < 1000000000) (hl : lagsN z x = false) (hne : r + 1 ≠ al.length) :
  Calls Tryz.prog 104 #[.agg (runC p t q b)] w fun r' w' => r' = .returned (.tuple #[]) ∧ ∃ M' lab', Has σ M' w' ∧ AtTop K M' lab' p (MachS.top { s with mem := s.mem.at_ a } t fs (f.reg 1 (r + 1 : Nat))) t q b fs (f.reg 1 (r + 1 : Nat)) := by
 have HL := Lib.hid hl
 have HN := Lib.hid hne
 clear hl hne
 have d0 : (runC p t q b)[0]? = some (.pointer (some ⟨p, 0, none⟩)) := rfl
 have d1 : (runC p t q b)[1]? = some (.int .i64 (t : Nat)) := rfl
 have d2 : (runC p t q b)[2]? = some (.pointer (some ⟨q, 0, none⟩)) := rfl
 have d3 : (runC p t q b)[3]? = some (.pointer (some ⟨b, 0, none⟩)) := rfl
 have dx : (runC p t q b).extract 0 (0 + 4) = runC p t q b := rfl
 have dz : (runC p t q b).size = 4 := rfl
 have f1 : f.row[1]? = some (.int .i64 1) := by rw [← hat]; rfl
 go_enter Tryz.func104, Tryz.ntmps104
 go_upto_region 1 with (fail)
 obtain ⟨M1, hbx, hle, hb4, hn⟩ := h.box (.cells (runC p t q b) 170)
 generalize w.alloc _ = wx at hbx ⊢
 generalize w.heap.size = b4 at hb4 hn ⊢
 clear h
 try clear w
 have h := hbx
 clear hbx
 obtain ⟨w, rfl⟩ : ∃ x : World, x = wx := ⟨_, rfl⟩
 obtain ⟨lab1, hT1⟩ := hT.more1 hle hn hb4
 have hnK : K b4 = none := by
  cases e : K b4 with
  | none => rfl
  | some o => have := (hT.base _ _ e).1; rw [hn] at this; cases this
 have hKK : K.le (K.upd b4 (.cells (runC p t q b) 170)) := Mm.le_upd' hnK _
 have hbK : (K.upd b4 (.cells (runC p t q b) 170)) b4 = some (.cells (runC p t q b) 170) := Mm.upd_same _ _ _
 have hfb := hT1.obj
 have PL := Lib.hid (fun (w : World) (h : Has σ M1 w) => mPlan_eq h hT1.mach)
 have CF := Lib.hid (fun (w : World) (h : Has σ M1 w) => conf_has h s.c hT1.mach.plan)
 have LV : Hid (∀ w : World, Has σ M1 w → Calls Tryz.prog 12 #[.pointer (some ⟨p, 0, none⟩), .int .i64 (t : Nat)] w fun r w' => r = .returned (.int .i64 (lv : Nat)) ∧ Has σ M1 w') := Lib.hid fun w h => (mLevel_eq h hT1.mach t).mono fun r w' ⟨e, h'⟩ => ⟨e.trans (congrArg (fun z => Ending.returned (Value.int .i64 z)) hlv), h'⟩
 have AT := Lib.hid (fun (w : World) (h : Has σ M1 w) => confAt_eq h s.c (decide_eq_true hT.mach.may) hT1c lv)
 rw [hal] at AT
 have f2 : f.row[2]? = some (.int .u64 (x : Nat)) := by rw [← hx]; rfl
 have f3 : f.row[3]? = some (.int .u64 (r : Nat)) := by rw [← hr]; rfl
 have ur : IntKind.i64.wrap ((r : Nat) : Int) = ((r : Nat) : Int) := IntWalk.i64_in _ (by omega)
 have hrl : (r : Int) < (al.length : Int) := by have := (List.getElem?_eq_some_iff.1 hy).1; omega
 have HT1 := Lib.hid hT1
 have HSP := Lib.hid (fun (M' : Mm) (hle' : M1.le M') => SP.le (Mm.le_trans hle hle'))
 have HZ := Lib.hid hz
 have HB1 := Lib.hid hb1
 have HKK := Lib.hid hKK
 have HY := Lib.hid hy
 have LG := Lib.hid (epLags_any z x hz64 hx62)
 clear hT hT1 SP hb1 hn hle hnK hKK hat hT1c hlv hal hx hx62 hr hz hz64 hy
 obtain ⟨nl, hnl⟩ : ∃ nl, al.length = nl := ⟨_, rfl⟩
 rw [hnl] at AT hrl
 have HNL := Lib.hid hnl
 clear hnl
 generalize hrc : runC p t q b = rc at *
 have HRC := Lib.hid hrc
 clear hrc
 generalize hr0 : f.row = fr0 at *
 have HR0 := Lib.hid hr0
 clear hr0
 generalize K.upd b4 _ = K1 at *
 unfold confV at AT
 generalize ints .i64 14 s.c = crow at *
 go_upto_region 2 with (first
  | (with_reducible show wpList _ _ _ ({ dst := _, op := Op.load 70 _, type := _, pos := _, after := _, guard := _ } :: _) _ _; refine wpList_load1_has h rfl 70 _ rfl rfl hb4 d3 Tryz.underlying70 rfl ?_))
 refine wp_region_head (Has σ M1) 9 (by kernel_rfl) (by kernel_rfl) (fun _ _ _ _ _ h => h) h.drew ?_
 clear h
 simp only [List.take_succ_cons, List.take_zero, List.drop_succ_cons, List.drop_zero]
 repeat (first
  | go_big_quiet_skip
  | (go_big_quiet_want; first
   | (refine quiet_load_has 26 _ rfl rfl hb4 d0 Tryz.underlying26 rfl ?_; simp only [Act.put, qD, qE, qF]; go_big_quiet_on)
   | (refine quiet_load_has 3 _ rfl rfl hb4 d1 Tryz.underlying3 rfl ?_; simp only [Act.put, qD, qE, qF]; go_big_quiet_on)
   | (go_big_quiet_op; first | go_big_quiet_on | go_big_quiet_call (first | with_reducible exact fun _ => rfl | with_reducible exact PL.out _ | with_reducible exact CF.out _ | with_reducible exact LV.out _))))
 refine wpQuiet_nil ?_
 try clear w
 intro w h
 clear PL CF LV
 go_upto_region 3 with (first
  | ((go_at_call 129; refine (AT.out _ h).mono ?_; clear h; rintro _ w ⟨v3, rfl, M2, h, hle2, hown⟩)))
 have hT2 := HT1.out.more hle2
 have ME := Lib.hid (fun (w : World) (h : Has σ M2 w) => mMem_eq h hT2.mach)
 have AC := Lib.hid (fun (w : World) (h : Has σ M2 w) => epAt_eq (q := q) (b := b) h (HSP.out M2 hle2))
 rw [HRC.out] at AC
 have LD := Lib.hid (fun (w : World) (h : Has σ M2 w) => memLoad_eq h hT2.mach.mem HB1.out a)
 rw [HZ.out] at LD
 have hT3 := hT2.load a
 have hmp := hT2.mach.mem.obj
 have hb2 := hT2.base.le _ _ hbK
 have hf2 := hle2 _ _ hfb
 have ne4 : b4 ≠ s.mp := Mm.ne_cells hb2 hmp (by decide)
 have nef : b ≠ s.mp := Mm.ne_cells hf2 hmp (by decide)
 have hbD := Mm.drop_of hb2 ne4
 have hfD := Mm.drop_of hf2 nef
 have hmp1 : M1 s.mp = some (.cells s.mem.cells 146) := HT1.out.mach.mem.obj
 have hrdD := hown.rd_drop hmp1
 obtain ⟨_, A3, c3, rfl, hnc3, hA3⟩ := hrdD
 obtain ⟨g3, o3, cs3, t3, z3, rfl, hg3, hx3⟩ := hA3 (by omega)
 have gy : cs3[o3 + r]? = some (.int .i64 (y : Nat)) := hx3 r _ (by simp [natv, HY.out])
 have KD : (M2.drop s.mp).le M2 := Mm.drop_le _ _
 have KE : (M2.drop s.mp).le (M2.upd s.mp (.cells (s.mem.at_ a).cells 146)) := Mm.drop_upd KD _
 have HT3 := Lib.hid hT3
 clear hT2 hT3 hown HT1 HSP HZ HB1 HY HRC hle2 AT hmp hb2 ne4 nef hmp1 hx3 hA3
 generalize M2.drop s.mp = MD at *
 generalize hM3 : M2.upd s.mp _ = M3 at *
 go_upto_region 12 with (first
  | (with_reducible show wpList _ _ _ ({ dst := _, op := Op.load 3 _, type := _, pos := _, after := _, guard := _ } :: _) _ _; refine wpList_load1_has h rfl 3 _ rfl rfl hf2 f1 Tryz.underlying3 rfl ?_))
 clear hf2
 refine wp_region_held_drew (S := Has σ (MD)) (by kernel_rfl) (h.drew.le KD) (fun hHeld => ?_)
 refine wpAnyH_take (i := 0) (v := ?_) rfl (by kernel_rfl) (by kernel_rfl) (by kernel_rfl) (fun _ _ _ h => h) (Or.inl ⟨by rfl, ?_⟩) hHeld ?_
 rotate_left
 ·(intro wz _; go_simp; try with_reducible rfl)
 try simp only [qA, qB, qC, Act.put, qD, qE, qF]
 refine wpAnyH_take (i := 1) (v := _) rfl (by kernel_rfl) (by kernel_rfl) (by kernel_rfl) (fun _ _ _ h => h) (yields_load1 rfl 26 _ rfl rfl hbD d0 Tryz.underlying26 rfl) hHeld ?_
 try simp only [qA, qB, qC, Act.put, qD, qE, qF]
 refine wpAnyH_take (i := 3) (v := _) rfl (by kernel_rfl) (by kernel_rfl) (by kernel_rfl) (fun _ _ _ h => h) (yields_agg rfl 170 _ rfl rfl hbD dx dz Tryz.underlying170 rfl (by kernel_rfl)) hHeld ?_
 try simp only [qA, qB, qC, Act.put, qD, qE, qF]
 refine wpAnyH_take (i := 4) (v := ?_) rfl (by kernel_rfl) (by kernel_rfl) (by kernel_rfl) (fun _ _ _ h => h) (Or.inl ⟨by rfl, ?_⟩) hHeld ?_
 rotate_left
 ·(intro wz _; go_simp; try with_reducible rfl)
 try simp only [qA, qB, qC, Act.put, qD, qE, qF]
 refine wpAnyH_take (i := 5) (v := ?_) rfl (by kernel_rfl) (by kernel_rfl) (by kernel_rfl) (fun _ _ _ h => h) (Or.inl ⟨by rfl, ?_⟩) hHeld ?_
 rotate_left
 ·(intro wz _; go_simp; try with_reducible rfl)
 try simp only [qA, qB, qC, Act.put, qD, qE, qF]
 refine wpAnyH_take (i := 6) (v := ?_) rfl (by kernel_rfl) (by kernel_rfl) (by kernel_rfl) (fun _ _ _ h => h) (Or.inl ⟨by rfl, ?_⟩) hHeld ?_
 rotate_left
 ·(intro wz _; go_simp; try with_reducible rfl)
 try simp only [qA, qB, qC, Act.put, qD, qE, qF]
 refine wpAnyH_take (i := 7) (v := ?_) rfl (by kernel_rfl) (by kernel_rfl) (by kernel_rfl) (fun _ _ _ h => h) (Or.inl ⟨by rfl, ?_⟩) hHeld ?_
 rotate_left
 ·(intro wz _; go_simp; try with_reducible rfl)
 try simp only [qA, qB, qC, Act.put, qD, qE, qF]
 refine wpAnyH_take (i := 8) (v := ?_) rfl (by kernel_rfl) (by kernel_rfl) (by kernel_rfl) (fun _ _ _ h => h) (Or.inl ⟨by rfl, ?_⟩) hHeld ?_
 rotate_left
 ·(intro wz _; go_simp; try with_reducible rfl)
 try simp only [qA, qB, qC, Act.put, qD, qE, qF]
 refine wpAnyH_take (i := 9) (v := _) rfl (by kernel_rfl) (by kernel_rfl) (by kernel_rfl) (fun _ _ _ h => h) (yields_load1 rfl 42 _ rfl rfl hfD f3 Tryz.underlying42 rfl) hHeld ?_
 try simp only [qA, qB, qC, Act.put, qD, qE, qF]
 refine wpAnyH_take (i := 10) (v := ?_) rfl (by kernel_rfl) (by kernel_rfl) (by kernel_rfl) (fun _ _ _ h => h) (Or.inl ⟨by rfl, ?_⟩) hHeld ?_
 rotate_left
 ·(intro wz _; go_simp; try with_reducible rfl)
 try simp only [qA, qB, qC, Act.put, qD, qE, qF]
 refine wpAnyH_take (i := 11) (v := ?_) rfl (by kernel_rfl) (by kernel_rfl) (by kernel_rfl) (fun _ _ _ h => h) (Or.inl ⟨by rfl, ?_⟩) hHeld ?_
 rotate_left
 ·(intro wz _; go_simp; try with_reducible rfl)
 try simp only [qA, qB, qC, Act.put, qD, qE, qF]
 refine wpAnyH_take (i := 12) (v := _) rfl (by kernel_rfl) (by kernel_rfl) (by kernel_rfl) (fun _ _ _ h => h) (yields_load1 rfl 3 _ rfl rfl hg3 gy Tryz.underlying3 rfl) hHeld ?_
 try simp only [qA, qB, qC, Act.put, qD, qE, qF]
 refine wpAnyH_take (i := 15) (v := ?_) rfl (by kernel_rfl) (by kernel_rfl) (by kernel_rfl) (fun _ _ _ h => h) (Or.inl ⟨by rfl, ?_⟩) hHeld ?_
 rotate_left
 ·(intro wz _; go_simp; try with_reducible rfl)
 try simp only [qA, qB, qC, Act.put, qD, qE, qF]
 refine wpAnyH_take (i := 16) (v := ?_) rfl (by kernel_rfl) (by kernel_rfl) (by kernel_rfl) (fun _ _ _ h => h) (Or.inl ⟨by rfl, ?_⟩) hHeld ?_
 rotate_left
 ·(intro wz _; go_simp; try with_reducible rfl)
 try simp only [qA, qB, qC, Act.put, qD, qE, qF]
 refine wpAnyH_take (i := 17) (v := ?_) rfl (by kernel_rfl) (by kernel_rfl) (by kernel_rfl) (fun _ _ _ h => h) (Or.inl ⟨by rfl, ?_⟩) hHeld ?_
 rotate_left
 ·(intro wz _; go_simp; try with_reducible rfl)
 try simp only [qA, qB, qC, Act.put, qD, qE, qF]
 refine wpAnyH_take (i := 18) (v := ?_) rfl (by kernel_rfl) (by kernel_rfl) (by kernel_rfl) (fun _ _ _ h => h) (Or.inl ⟨by rfl, ?_⟩) hHeld ?_
 rotate_left
 ·(intro wz _; go_simp; try with_reducible rfl)
 try simp only [qA, qB, qC, Act.put, qD, qE, qF]
 refine wpAnyH_take (i := 19) (v := _) rfl (by kernel_rfl) (by kernel_rfl) (by kernel_rfl) (fun _ _ _ h => h) (yields_load1 rfl 42 _ rfl rfl hfD f2 Tryz.underlying42 rfl) hHeld ?_
 try simp only [qA, qB, qC, Act.put, qD, qE, qF]
 replace h := h.drew
 generalize w.drew = w1 at h hHeld ⊢
 clear w
 obtain ⟨w, rfl⟩ : ∃ q : World, q = w1 := ⟨_, rfl⟩
 refine wpAnyH_ready (rs := [2]) (by kernel_rfl) (by simp) ?_
 refine AllReadyH.cons rfl (fun K hK => ?_) AllReadyH.nil
 (go_simp; go_wp2_with (go_at_call 46; refine (ME.out _ h).mono ?_; clear h; rintro _ w ⟨rfl, h⟩))
 refine hK.out _ _ (h.le KD) (fun hHeld => ?_)
 clear hK K
 try simp only [Act.put, qD, qE, qF]
 refine wpAnyH_ready (rs := [13]) (by kernel_rfl) (by simp) ?_
 refine AllReadyH.cons rfl (fun K hK => ?_) AllReadyH.nil
 (go_simp; go_wp2_with (go_at_call 127; refine (AC.out _ h).mono ?_; clear h; rintro _ w ⟨rfl, h⟩))
 refine hK.out _ _ (h.le KD) (fun hHeld => ?_)
 clear hK K
 try simp only [Act.put, qD, qE, qF]
 refine wpAnyH_ready (rs := [14]) (by kernel_rfl) (by simp) ?_
 refine AllReadyH.cons rfl (fun K hK => ?_) AllReadyH.nil
 (go_simp; go_wp2_with (go_at_call 94; refine (LD.out _ h).mono ?_; clear h; rintro _ w ⟨rfl, h⟩))
 refine hK.out _ _ (h.le KE) (fun hHeld => ?_)
 clear hK K
 try simp only [Act.put, qD, qE, qF]
 refine wpAnyH_ready (rs := [20]) (by kernel_rfl) (by simp) ?_
 refine AllReadyH.cons rfl (fun K hK => ?_) AllReadyH.nil
 (go_simp; go_wp2_with (go_at_call 130; refine (LG.out _).mono ?_; rintro _ w' ⟨rfl, rfl⟩))
 refine hK.out _ _ (h.le KE) (fun hHeld => ?_)
 clear hK K
 try simp only [Act.put, qD, qE, qF]
 refine wpAnyH_done (by kernel_rfl) ?_ _
 clear hHeld ME AC LD LG
 have hfb3 := KE _ _ hfD
 have hb43 := KE _ _ hbD
 clear hbD hfD hg3 KD hfb hb4
 rw [HL.out]
 obtain ⟨hfb4, hT4⟩ := HT3.out.frame (f.reg 1 (r + 1 : Nat))
 rw [HR0.out] at hfb4
 have hsz : 3 < fr0.size := by rw [← HR0.out]; show 3 < 18; omega
 have R1 := Lib.hid (row_regv f (r + 1 : Nat))
 rw [HR0.out] at R1
 have w1 : IntKind.u64.wrap ((r : Int) + 1) = ((r + 1 : Nat) : Int) := by rw [show (r : Int) + 1 = ((r + 1 : Nat) : Int) by omega]; exact IntWalk.u64_in _ (by omega)
 have w2 : IntKind.i64.wrap ((r + 1 : Nat) : Int) = ((r + 1 : Nat) : Int) := IntWalk.i64_in _ (by omega)
 have w3 : IntKind.i64.wrap ((r : Int) + 1) = ((r + 1 : Nat) : Int) := by rw [show (r : Int) + 1 = ((r + 1 : Nat) : Int) by omega]; exact w2
 have g3 : (f.reg 1 (r + 1 : Nat)).row[3]? = some (.int .u64 (r + 1 : Nat)) := rfl
 have hfb5 := Mm.upd_same M3 b (.cells (f.reg 1 (r + 1 : Nat)).row 69)
 have HT := Lib.hid (hT4.less HKK.out)
 have gn : (((r + 1 : Nat) : Int) == (nl : Int)) = false := beq_eq_false_iff_ne.2 (by have := HN.out; have := HNL.out; omega)
 have gn2 : ¬ ((r + 1 : Nat) : Int) = (nl : Int) := by have := HN.out; have := HNL.out; omega
 have gn3 : ¬ (r : Int) + 1 = (nl : Int) := by have := HN.out; have := HNL.out; omega
 have gn4 : ¬ r + 1 = nl := by have := HN.out; have := HNL.out; omega
 clear hT4 HT3 KE hb43
 generalize hr1 : (f.reg 1 (r + 1 : Nat)).row = fr1 at *
 clear hr1
 go_upto_region 14 with (fail)
 refine wp_region_head (Has σ M3) 9 (by kernel_rfl) (by kernel_rfl) (fun _ _ _ _ _ h => h) h.drew ?_
 clear h
 simp only [List.take_succ_cons, List.take_zero, List.drop_succ_cons, List.drop_zero]
 repeat (first
  | go_big_quiet_skip
  | (go_big_quiet_want; first
   | (refine quiet_load_has 42 _ rfl rfl hfb3 f3 Tryz.underlying42 rfl ?_; simp only [Act.put, qD, qE, qF]; go_big_quiet_on)
   | (go_big_quiet_op; first | go_big_quiet_on | go_big_quiet_call (first | with_reducible exact fun _ => rfl))))
 refine wpQuiet_nil ?_
 try clear w
 intro w h
 go_upto_region 15 with (first
  | (with_reducible show wpList _ _ _ ({ dst := _, op := Op.store 42 _ _, type := _, pos := _, after := _, guard := _ } :: _) _ _; refine wpList_store1_has h rfl 42 _ _ rfl rfl rfl hfb3 hsz rfl (by kernel_rfl) ?_; clear h; intro w h))
 have h0 : Has σ (M3.upd b (.cells (fr0.setIfInBounds 3 (.int .u64 (r + 1 : Nat))) 69)) w := h
 rw [R1.out] at h0
 clear h
 have h := h0
 clear h0
 generalize M3.upd b _ = M4 at *
 go_wp2_with (first
  | (with_reducible show wpList _ _ _ ({ dst := _, op := Op.load 42 _, type := _, pos := _, after := _, guard := _ } :: _) _ _; refine wpList_load1_has h rfl 42 _ rfl rfl hfb5 g3 Tryz.underlying42 rfl ?_))
 go_end0
 exact ⟨rfl, _, _, h, HT.out⟩
set_option maxHeartbeats 4000000 in
set_option maxRecDepth 20000 in
/-- The last thread. -/
theorem adv_1last {σ w : World} {K M : Mm} {lab : Nat → Nat} {p t q b : Nat} {s : MachS} {fs : List FrameS} {f : FrameS} (h : Has σ M w) (hT : AtTop K M lab p s t q b fs f) (hat : f.at_ = 1) {lv : Nat} (hlv : levelOf s.c (t : Nat) = (lv : Nat)) {T : Nat} (hT1c : s.c 1 = (T : Nat)) {al : List Nat} (hal : atC s.c T lv = al) {x r y z : Nat} (hx : f.r 0 = (x : Int)) (hx62 : x < 4611686018427387904) (hr : f.r 1 = (r : Int)) (hr8 : r < 8) (hy : al[r]? = some y) {a : Int} (SP : SpotAt σ M p t 6 (y : Nat) 0 a) (hz : s.mem.load a = (z : Int)) (hz64 : z < 18446744073709551616) (hb1 : s.mem.acc < 1000000000) (hl : lagsN z x = false) (hne : r + 1 = al.length) :
  Calls Tryz.prog 104 #[.agg (runC p t q b)] w fun r' w' => r' = .returned (.tuple #[]) ∧ ∃ M' lab', Has σ M' w' ∧ AtTop K M' lab' p (MachS.top { s with mem := s.mem.at_ a } t fs ((f.reg 1 (r + 1 : Nat)).goto 2)) t q b fs ((f.reg 1 (r + 1 : Nat)).goto 2) := by
 have HL := Lib.hid hl
 have HN := Lib.hid hne
 clear hl hne
 have d0 : (runC p t q b)[0]? = some (.pointer (some ⟨p, 0, none⟩)) := rfl
 have d1 : (runC p t q b)[1]? = some (.int .i64 (t : Nat)) := rfl
 have d2 : (runC p t q b)[2]? = some (.pointer (some ⟨q, 0, none⟩)) := rfl
 have d3 : (runC p t q b)[3]? = some (.pointer (some ⟨b, 0, none⟩)) := rfl
 have dx : (runC p t q b).extract 0 (0 + 4) = runC p t q b := rfl
 have dz : (runC p t q b).size = 4 := rfl
 have f1 : f.row[1]? = some (.int .i64 1) := by rw [← hat]; rfl
 go_enter Tryz.func104, Tryz.ntmps104
 go_upto_region 1 with (fail)
 obtain ⟨M1, hbx, hle, hb4, hn⟩ := h.box (.cells (runC p t q b) 170)
 generalize w.alloc _ = wx at hbx ⊢
 generalize w.heap.size = b4 at hb4 hn ⊢
 clear h
 try clear w
 have h := hbx
 clear hbx
 obtain ⟨w, rfl⟩ : ∃ x : World, x = wx := ⟨_, rfl⟩
 obtain ⟨lab1, hT1⟩ := hT.more1 hle hn hb4
 have hnK : K b4 = none := by
  cases e : K b4 with
  | none => rfl
  | some o => have := (hT.base _ _ e).1; rw [hn] at this; cases this
 have hKK : K.le (K.upd b4 (.cells (runC p t q b) 170)) := Mm.le_upd' hnK _
 have hbK : (K.upd b4 (.cells (runC p t q b) 170)) b4 = some (.cells (runC p t q b) 170) := Mm.upd_same _ _ _
 have hfb := hT1.obj
 have PL := Lib.hid (fun (w : World) (h : Has σ M1 w) => mPlan_eq h hT1.mach)
 have CF := Lib.hid (fun (w : World) (h : Has σ M1 w) => conf_has h s.c hT1.mach.plan)
 have LV : Hid (∀ w : World, Has σ M1 w → Calls Tryz.prog 12 #[.pointer (some ⟨p, 0, none⟩), .int .i64 (t : Nat)] w fun r w' => r = .returned (.int .i64 (lv : Nat)) ∧ Has σ M1 w') := Lib.hid fun w h => (mLevel_eq h hT1.mach t).mono fun r w' ⟨e, h'⟩ => ⟨e.trans (congrArg (fun z => Ending.returned (Value.int .i64 z)) hlv), h'⟩
 have AT := Lib.hid (fun (w : World) (h : Has σ M1 w) => confAt_eq h s.c (decide_eq_true hT.mach.may) hT1c lv)
 rw [hal] at AT
 have f2 : f.row[2]? = some (.int .u64 (x : Nat)) := by rw [← hx]; rfl
 have f3 : f.row[3]? = some (.int .u64 (r : Nat)) := by rw [← hr]; rfl
 have ur : IntKind.i64.wrap ((r : Nat) : Int) = ((r : Nat) : Int) := IntWalk.i64_in _ (by omega)
 have hrl : (r : Int) < (al.length : Int) := by have := (List.getElem?_eq_some_iff.1 hy).1; omega
 have HT1 := Lib.hid hT1
 have HSP := Lib.hid (fun (M' : Mm) (hle' : M1.le M') => SP.le (Mm.le_trans hle hle'))
 have HZ := Lib.hid hz
 have HB1 := Lib.hid hb1
 have HKK := Lib.hid hKK
 have HY := Lib.hid hy
 have LG := Lib.hid (epLags_any z x hz64 hx62)
 clear hT hT1 SP hb1 hn hle hnK hKK hat hT1c hlv hal hx hx62 hr hz hz64 hy
 obtain ⟨nl, hnl⟩ : ∃ nl, al.length = nl := ⟨_, rfl⟩
 rw [hnl] at AT hrl
 have HNL := Lib.hid hnl
 clear hnl
 generalize hrc : runC p t q b = rc at *
 have HRC := Lib.hid hrc
 clear hrc
 generalize hr0 : f.row = fr0 at *
 have HR0 := Lib.hid hr0
 clear hr0
 generalize K.upd b4 _ = K1 at *
 unfold confV at AT
 generalize ints .i64 14 s.c = crow at *
 go_upto_region 2 with (first
  | (with_reducible show wpList _ _ _ ({ dst := _, op := Op.load 70 _, type := _, pos := _, after := _, guard := _ } :: _) _ _; refine wpList_load1_has h rfl 70 _ rfl rfl hb4 d3 Tryz.underlying70 rfl ?_))
 refine wp_region_head (Has σ M1) 9 (by kernel_rfl) (by kernel_rfl) (fun _ _ _ _ _ h => h) h.drew ?_
 clear h
 simp only [List.take_succ_cons, List.take_zero, List.drop_succ_cons, List.drop_zero]
 repeat (first
  | go_big_quiet_skip
  | (go_big_quiet_want; first
   | (refine quiet_load_has 26 _ rfl rfl hb4 d0 Tryz.underlying26 rfl ?_; simp only [Act.put, qD, qE, qF]; go_big_quiet_on)
   | (refine quiet_load_has 3 _ rfl rfl hb4 d1 Tryz.underlying3 rfl ?_; simp only [Act.put, qD, qE, qF]; go_big_quiet_on)
   | (go_big_quiet_op; first | go_big_quiet_on | go_big_quiet_call (first | with_reducible exact fun _ => rfl | with_reducible exact PL.out _ | with_reducible exact CF.out _ | with_reducible exact LV.out _))))
 refine wpQuiet_nil ?_
 try clear w
 intro w h
 clear PL CF LV
 go_upto_region 3 with (first
  | ((go_at_call 129; refine (AT.out _ h).mono ?_; clear h; rintro _ w ⟨v3, rfl, M2, h, hle2, hown⟩)))
 have hT2 := HT1.out.more hle2
 have ME := Lib.hid (fun (w : World) (h : Has σ M2 w) => mMem_eq h hT2.mach)
 have AC := Lib.hid (fun (w : World) (h : Has σ M2 w) => epAt_eq (q := q) (b := b) h (HSP.out M2 hle2))
 rw [HRC.out] at AC
 have LD := Lib.hid (fun (w : World) (h : Has σ M2 w) => memLoad_eq h hT2.mach.mem HB1.out a)
 rw [HZ.out] at LD
 have hT3 := hT2.load a
 have hmp := hT2.mach.mem.obj
 have hb2 := hT2.base.le _ _ hbK
 have hf2 := hle2 _ _ hfb
 have ne4 : b4 ≠ s.mp := Mm.ne_cells hb2 hmp (by decide)
 have nef : b ≠ s.mp := Mm.ne_cells hf2 hmp (by decide)
 have hbD := Mm.drop_of hb2 ne4
 have hfD := Mm.drop_of hf2 nef
 have hmp1 : M1 s.mp = some (.cells s.mem.cells 146) := HT1.out.mach.mem.obj
 have hrdD := hown.rd_drop hmp1
 obtain ⟨_, A3, c3, rfl, hnc3, hA3⟩ := hrdD
 obtain ⟨g3, o3, cs3, t3, z3, rfl, hg3, hx3⟩ := hA3 (by omega)
 have gy : cs3[o3 + r]? = some (.int .i64 (y : Nat)) := hx3 r _ (by simp [natv, HY.out])
 have KD : (M2.drop s.mp).le M2 := Mm.drop_le _ _
 have KE : (M2.drop s.mp).le (M2.upd s.mp (.cells (s.mem.at_ a).cells 146)) := Mm.drop_upd KD _
 have HT3 := Lib.hid hT3
 clear hT2 hT3 hown HT1 HSP HZ HB1 HY HRC hle2 AT hmp hb2 ne4 nef hmp1 hx3 hA3
 generalize M2.drop s.mp = MD at *
 generalize hM3 : M2.upd s.mp _ = M3 at *
 go_upto_region 12 with (first
  | (with_reducible show wpList _ _ _ ({ dst := _, op := Op.load 3 _, type := _, pos := _, after := _, guard := _ } :: _) _ _; refine wpList_load1_has h rfl 3 _ rfl rfl hf2 f1 Tryz.underlying3 rfl ?_))
 clear hf2
 refine wp_region_held_drew (S := Has σ (MD)) (by kernel_rfl) (h.drew.le KD) (fun hHeld => ?_)
 refine wpAnyH_take (i := 0) (v := ?_) rfl (by kernel_rfl) (by kernel_rfl) (by kernel_rfl) (fun _ _ _ h => h) (Or.inl ⟨by rfl, ?_⟩) hHeld ?_
 rotate_left
 ·(intro wz _; go_simp; try with_reducible rfl)
 try simp only [qA, qB, qC, Act.put, qD, qE, qF]
 refine wpAnyH_take (i := 1) (v := _) rfl (by kernel_rfl) (by kernel_rfl) (by kernel_rfl) (fun _ _ _ h => h) (yields_load1 rfl 26 _ rfl rfl hbD d0 Tryz.underlying26 rfl) hHeld ?_
 try simp only [qA, qB, qC, Act.put, qD, qE, qF]
 refine wpAnyH_take (i := 3) (v := _) rfl (by kernel_rfl) (by kernel_rfl) (by kernel_rfl) (fun _ _ _ h => h) (yields_agg rfl 170 _ rfl rfl hbD dx dz Tryz.underlying170 rfl (by kernel_rfl)) hHeld ?_
 try simp only [qA, qB, qC, Act.put, qD, qE, qF]
 refine wpAnyH_take (i := 4) (v := ?_) rfl (by kernel_rfl) (by kernel_rfl) (by kernel_rfl) (fun _ _ _ h => h) (Or.inl ⟨by rfl, ?_⟩) hHeld ?_
 rotate_left
 ·(intro wz _; go_simp; try with_reducible rfl)
 try simp only [qA, qB, qC, Act.put, qD, qE, qF]
 refine wpAnyH_take (i := 5) (v := ?_) rfl (by kernel_rfl) (by kernel_rfl) (by kernel_rfl) (fun _ _ _ h => h) (Or.inl ⟨by rfl, ?_⟩) hHeld ?_
 rotate_left
 ·(intro wz _; go_simp; try with_reducible rfl)
 try simp only [qA, qB, qC, Act.put, qD, qE, qF]
 refine wpAnyH_take (i := 6) (v := ?_) rfl (by kernel_rfl) (by kernel_rfl) (by kernel_rfl) (fun _ _ _ h => h) (Or.inl ⟨by rfl, ?_⟩) hHeld ?_
 rotate_left
 ·(intro wz _; go_simp; try with_reducible rfl)
 try simp only [qA, qB, qC, Act.put, qD, qE, qF]
 refine wpAnyH_take (i := 7) (v := ?_) rfl (by kernel_rfl) (by kernel_rfl) (by kernel_rfl) (fun _ _ _ h => h) (Or.inl ⟨by rfl, ?_⟩) hHeld ?_
 rotate_left
 ·(intro wz _; go_simp; try with_reducible rfl)
 try simp only [qA, qB, qC, Act.put, qD, qE, qF]
 refine wpAnyH_take (i := 8) (v := ?_) rfl (by kernel_rfl) (by kernel_rfl) (by kernel_rfl) (fun _ _ _ h => h) (Or.inl ⟨by rfl, ?_⟩) hHeld ?_
 rotate_left
 ·(intro wz _; go_simp; try with_reducible rfl)
 try simp only [qA, qB, qC, Act.put, qD, qE, qF]
 refine wpAnyH_take (i := 9) (v := _) rfl (by kernel_rfl) (by kernel_rfl) (by kernel_rfl) (fun _ _ _ h => h) (yields_load1 rfl 42 _ rfl rfl hfD f3 Tryz.underlying42 rfl) hHeld ?_
 try simp only [qA, qB, qC, Act.put, qD, qE, qF]
 refine wpAnyH_take (i := 10) (v := ?_) rfl (by kernel_rfl) (by kernel_rfl) (by kernel_rfl) (fun _ _ _ h => h) (Or.inl ⟨by rfl, ?_⟩) hHeld ?_
 rotate_left
 ·(intro wz _; go_simp; try with_reducible rfl)
 try simp only [qA, qB, qC, Act.put, qD, qE, qF]
 refine wpAnyH_take (i := 11) (v := ?_) rfl (by kernel_rfl) (by kernel_rfl) (by kernel_rfl) (fun _ _ _ h => h) (Or.inl ⟨by rfl, ?_⟩) hHeld ?_
 rotate_left
 ·(intro wz _; go_simp; try with_reducible rfl)
 try simp only [qA, qB, qC, Act.put, qD, qE, qF]
 refine wpAnyH_take (i := 12) (v := _) rfl (by kernel_rfl) (by kernel_rfl) (by kernel_rfl) (fun _ _ _ h => h) (yields_load1 rfl 3 _ rfl rfl hg3 gy Tryz.underlying3 rfl) hHeld ?_
 try simp only [qA, qB, qC, Act.put, qD, qE, qF]
 refine wpAnyH_take (i := 15) (v := ?_) rfl (by kernel_rfl) (by kernel_rfl) (by kernel_rfl) (fun _ _ _ h => h) (Or.inl ⟨by rfl, ?_⟩) hHeld ?_
 rotate_left
 ·(intro wz _; go_simp; try with_reducible rfl)
 try simp only [qA, qB, qC, Act.put, qD, qE, qF]
 refine wpAnyH_take (i := 16) (v := ?_) rfl (by kernel_rfl) (by kernel_rfl) (by kernel_rfl) (fun _ _ _ h => h) (Or.inl ⟨by rfl, ?_⟩) hHeld ?_
 rotate_left
 ·(intro wz _; go_simp; try with_reducible rfl)
 try simp only [qA, qB, qC, Act.put, qD, qE, qF]
 refine wpAnyH_take (i := 17) (v := ?_) rfl (by kernel_rfl) (by kernel_rfl) (by kernel_rfl) (fun _ _ _ h => h) (Or.inl ⟨by rfl, ?_⟩) hHeld ?_
 rotate_left
 ·(intro wz _; go_simp; try with_reducible rfl)
 try simp only [qA, qB, qC, Act.put, qD, qE, qF]
 refine wpAnyH_take (i := 18) (v := ?_) rfl (by kernel_rfl) (by kernel_rfl) (by kernel_rfl) (fun _ _ _ h => h) (Or.inl ⟨by rfl, ?_⟩) hHeld ?_
 rotate_left
 ·(intro wz _; go_simp; try with_reducible rfl)
 try simp only [qA, qB, qC, Act.put, qD, qE, qF]
 refine wpAnyH_take (i := 19) (v := _) rfl (by kernel_rfl) (by kernel_rfl) (by kernel_rfl) (fun _ _ _ h => h) (yields_load1 rfl 42 _ rfl rfl hfD f2 Tryz.underlying42 rfl) hHeld ?_
 try simp only [qA, qB, qC, Act.put, qD, qE, qF]
 replace h := h.drew
 generalize w.drew = w1 at h hHeld ⊢
 clear w
 obtain ⟨w, rfl⟩ : ∃ q : World, q = w1 := ⟨_, rfl⟩
 refine wpAnyH_ready (rs := [2]) (by kernel_rfl) (by simp) ?_
 refine AllReadyH.cons rfl (fun K hK => ?_) AllReadyH.nil
 (go_simp; go_wp2_with (go_at_call 46; refine (ME.out _ h).mono ?_; clear h; rintro _ w ⟨rfl, h⟩))
 refine hK.out _ _ (h.le KD) (fun hHeld => ?_)
 clear hK K
 try simp only [Act.put, qD, qE, qF]
 refine wpAnyH_ready (rs := [13]) (by kernel_rfl) (by simp) ?_
 refine AllReadyH.cons rfl (fun K hK => ?_) AllReadyH.nil
 (go_simp; go_wp2_with (go_at_call 127; refine (AC.out _ h).mono ?_; clear h; rintro _ w ⟨rfl, h⟩))
 refine hK.out _ _ (h.le KD) (fun hHeld => ?_)
 clear hK K
 try simp only [Act.put, qD, qE, qF]
 refine wpAnyH_ready (rs := [14]) (by kernel_rfl) (by simp) ?_
 refine AllReadyH.cons rfl (fun K hK => ?_) AllReadyH.nil
 (go_simp; go_wp2_with (go_at_call 94; refine (LD.out _ h).mono ?_; clear h; rintro _ w ⟨rfl, h⟩))
 refine hK.out _ _ (h.le KE) (fun hHeld => ?_)
 clear hK K
 try simp only [Act.put, qD, qE, qF]
 refine wpAnyH_ready (rs := [20]) (by kernel_rfl) (by simp) ?_
 refine AllReadyH.cons rfl (fun K hK => ?_) AllReadyH.nil
 (go_simp; go_wp2_with (go_at_call 130; refine (LG.out _).mono ?_; rintro _ w' ⟨rfl, rfl⟩))
 refine hK.out _ _ (h.le KE) (fun hHeld => ?_)
 clear hK K
 try simp only [Act.put, qD, qE, qF]
 refine wpAnyH_done (by kernel_rfl) ?_ _
 clear hHeld ME AC LD LG
 have hfb3 := KE _ _ hfD
 have hb43 := KE _ _ hbD
 clear hbD hfD hg3 KD hfb hb4
 rw [HL.out]
 obtain ⟨hfb4, hT4⟩ := HT3.out.frame (f.reg 1 (r + 1 : Nat))
 rw [HR0.out] at hfb4
 have hsz : 3 < fr0.size := by rw [← HR0.out]; show 3 < 18; omega
 have R1 := Lib.hid (row_regv f (r + 1 : Nat))
 rw [HR0.out] at R1
 have w1 : IntKind.u64.wrap ((r : Int) + 1) = ((r + 1 : Nat) : Int) := by rw [show (r : Int) + 1 = ((r + 1 : Nat) : Int) by omega]; exact IntWalk.u64_in _ (by omega)
 have w2 : IntKind.i64.wrap ((r + 1 : Nat) : Int) = ((r + 1 : Nat) : Int) := IntWalk.i64_in _ (by omega)
 have w3 : IntKind.i64.wrap ((r : Int) + 1) = ((r + 1 : Nat) : Int) := by rw [show (r : Int) + 1 = ((r + 1 : Nat) : Int) by omega]; exact w2
 have g3 : (f.reg 1 (r + 1 : Nat)).row[3]? = some (.int .u64 (r + 1 : Nat)) := rfl
 have hfb5 := Mm.upd_same M3 b (.cells (f.reg 1 (r + 1 : Nat)).row 69)
 obtain ⟨hfb6, hT6⟩ := hT4.frame ((f.reg 1 (r + 1 : Nat)).goto 2)
 rw [MachS.top_top, Mm.upd_upd] at hT6
 have HT := Lib.hid (hT6.less HKK.out)
 have R2 := Lib.hid (row_goto (f.reg 1 (r + 1 : Nat)) 2)
 have hsz3 : 1 < (f.reg 1 (r + 1 : Nat)).row.size := show 1 < 18 by omega
 have gn0 : nl = r + 1 := by have := HN.out; have := HNL.out; omega
 subst gn0
 clear hT4 hT6 HT3 KE hb43
 generalize hr1 : (f.reg 1 (r + 1 : Nat)).row = fr1 at *
 clear hr1
 go_upto_region 14 with (fail)
 refine wp_region_head (Has σ M3) 9 (by kernel_rfl) (by kernel_rfl) (fun _ _ _ _ _ h => h) h.drew ?_
 clear h
 simp only [List.take_succ_cons, List.take_zero, List.drop_succ_cons, List.drop_zero]
 repeat (first
  | go_big_quiet_skip
  | (go_big_quiet_want; first
   | (refine quiet_load_has 42 _ rfl rfl hfb3 f3 Tryz.underlying42 rfl ?_; simp only [Act.put, qD, qE, qF]; go_big_quiet_on)
   | (go_big_quiet_op; first | go_big_quiet_on | go_big_quiet_call (first | with_reducible exact fun _ => rfl))))
 refine wpQuiet_nil ?_
 try clear w
 intro w h
 go_upto_region 15 with (first
  | (with_reducible show wpList _ _ _ ({ dst := _, op := Op.store 42 _ _, type := _, pos := _, after := _, guard := _ } :: _) _ _; refine wpList_store1_has h rfl 42 _ _ rfl rfl rfl hfb3 hsz rfl (by kernel_rfl) ?_; clear h; intro w h))
 have h0 : Has σ (M3.upd b (.cells (fr0.setIfInBounds 3 (.int .u64 (r + 1 : Nat))) 69)) w := h
 rw [R1.out] at h0
 clear h
 have h := h0
 clear h0
 generalize hM4 : M3.upd b (.cells fr1 69) = M4 at h hfb5 hfb6
 go_wp2_with (first
  | (with_reducible show wpList _ _ _ ({ dst := _, op := Op.load 42 _, type := _, pos := _, after := _, guard := _ } :: _) _ _; refine wpList_load1_has h rfl 42 _ rfl rfl hfb5 g3 Tryz.underlying42 rfl ?_)
  | (with_reducible show wpList _ _ _ ({ dst := _, op := Op.store 3 _ _, type := _, pos := _, after := _, guard := _ } :: _) _ _; refine wpList_store1_has h rfl 3 _ _ rfl rfl rfl hfb5 hsz3 rfl (by kernel_rfl) ?_; clear h; intro w h))
 go_end0
 refine ⟨rfl, _, _, ?_, HT.out⟩
 have h0 : Has σ (M3.upd b (.cells (fr1.setIfInBounds 1 (.int .i64 2)) 69)) w := by rw [← hM4, Mm.upd_upd] at h; exact h
 rw [R2.out] at h0
 exact h0
set_option maxHeartbeats 4000000 in
set_option maxRecDepth 20000 in
/-- The epoch goes on, or was changed meanwhile. -/
theorem adv_2 {σ w : World} {K M : Mm} {lab : Nat → Nat} {p t q b : Nat} {s : MachS} {fs : List FrameS} {f : FrameS} (h : Has σ M w) (hT : AtTop K M lab p s t q b fs f) (hat : f.at_ = 2) {lv : Nat} (hlv : levelOf s.c (t : Nat) = (lv : Nat)) {T : Nat} (hT1c : s.c 1 = (T : Nat)) {x : Nat} (hx : f.r 0 = (x : Int)) (hx62 : x < 4611686018427387904) {a : Int} (SP : SpotAt σ M p t 1 0 0 a) (hb1 : s.mem.acc < 1000000000) (hb2 : s.mem.wr < 1000000000) (hfs : fs.length < 1000000) :
  Calls Tryz.prog 104 #[.agg (runC p t q b)] w fun r w' => r = .returned (.tuple #[]) ∧ ∃ M' lab', Has σ M' w' ∧ Mach M' lab' p (MachS.backed { s with mem := s.mem.cas a (x : Nat) (x + 1 : Nat) } t [if s.mem.swaps a (x : Nat) then 1 else 0]) ∧ Base K M' lab' := by
 obtain ⟨sw, hsw⟩ : ∃ sw : Bool, s.mem.swaps a (x : Nat) = sw := ⟨_, rfl⟩
 rw [hsw]
 obtain ⟨tv, htv⟩ : ∃ tv : Int, (if sw = true then (1 : Int) else 0) = tv := ⟨_, rfl⟩
 rw [htv]
 have HTV := Lib.hid htv
 clear htv
 have HSW := Lib.hid hsw
 clear hsw
 have d0 : (runC p t q b)[0]? = some (.pointer (some ⟨p, 0, none⟩)) := rfl
 have d1 : (runC p t q b)[1]? = some (.int .i64 (t : Nat)) := rfl
 have d2 : (runC p t q b)[2]? = some (.pointer (some ⟨q, 0, none⟩)) := rfl
 have d3 : (runC p t q b)[3]? = some (.pointer (some ⟨b, 0, none⟩)) := rfl
 have dx : (runC p t q b).extract 0 (0 + 4) = runC p t q b := rfl
 have dz : (runC p t q b).size = 4 := rfl
 have f1 : f.row[1]? = some (.int .i64 2) := by rw [← hat]; rfl
 go_enter Tryz.func104, Tryz.ntmps104
 go_upto_region 1 with (fail)
 obtain ⟨M1, hbx, hle, hb4, hn⟩ := h.box (.cells (runC p t q b) 170)
 generalize w.alloc _ = wx at hbx ⊢
 generalize w.heap.size = b4 at hb4 hn ⊢
 clear h
 try clear w
 have h := hbx
 clear hbx
 obtain ⟨w, rfl⟩ : ∃ x : World, x = wx := ⟨_, rfl⟩
 obtain ⟨lab1, hT1⟩ := hT.more1 hle hn hb4
 have hnK : K b4 = none := by
  cases e : K b4 with
  | none => rfl
  | some o => have := (hT.base _ _ e).1; rw [hn] at this; cases this
 have hKK : K.le (K.upd b4 (.cells (runC p t q b) 170)) := Mm.le_upd' hnK _
 have hbK : (K.upd b4 (.cells (runC p t q b) 170)) b4 = some (.cells (runC p t q b) 170) := Mm.upd_same _ _ _
 have hfb := hT1.obj
 have PL := Lib.hid (fun (w : World) (h : Has σ M1 w) => mPlan_eq h hT1.mach)
 have CF := Lib.hid (fun (w : World) (h : Has σ M1 w) => conf_has h s.c hT1.mach.plan)
 have LV : Hid (∀ w : World, Has σ M1 w → Calls Tryz.prog 12 #[.pointer (some ⟨p, 0, none⟩), .int .i64 (t : Nat)] w fun r w' => r = .returned (.int .i64 (lv : Nat)) ∧ Has σ M1 w') := Lib.hid fun w h => (mLevel_eq h hT1.mach t).mono fun r w' ⟨e, h'⟩ => ⟨e.trans (congrArg (fun z => Ending.returned (Value.int .i64 z)) hlv), h'⟩
 have AT := Lib.hid (fun (w : World) (h : Has σ M1 w) => confAt_eq h s.c (decide_eq_true hT.mach.may) hT1c lv)
 have f2 : f.row[2]? = some (.int .u64 (x : Nat)) := by rw [← hx]; rfl
 have wx : IntKind.u64.wrap ((x : Int) + 1) = ((x + 1 : Nat) : Int) := by rw [show (x : Int) + 1 = ((x + 1 : Nat) : Int) by omega]; exact IntWalk.u64_in _ (by omega)
 have HT1 := Lib.hid hT1
 have HSP := Lib.hid (fun (M' : Mm) (hle' : M1.le M') => SP.le (Mm.le_trans hle hle'))
 have HB := Lib.hid (⟨hb1, hb2⟩ : s.mem.acc < 1000000000 ∧ s.mem.wr < 1000000000)
 have HKK := Lib.hid hKK
 have HF := Lib.hid hfs
 clear hT hT1 SP hb1 hb2 hn hle hnK hKK hat hT1c hlv hx hx62 hfs
 generalize hrc : runC p t q b = rc at *
 have HRC := Lib.hid hrc
 clear hrc
 generalize f.row = fr0 at *
 generalize K.upd b4 _ = K1 at *
 unfold confV at AT
 generalize ints .i64 14 s.c = crow at *
 go_upto_region 2 with (first
  | (with_reducible show wpList _ _ _ ({ dst := _, op := Op.load 70 _, type := _, pos := _, after := _, guard := _ } :: _) _ _; refine wpList_load1_has h rfl 70 _ rfl rfl hb4 d3 Tryz.underlying70 rfl ?_))
 refine wp_region_head (Has σ M1) 9 (by kernel_rfl) (by kernel_rfl) (fun _ _ _ _ _ h => h) h.drew ?_
 clear h
 simp only [List.take_succ_cons, List.take_zero, List.drop_succ_cons, List.drop_zero]
 repeat (first
  | go_big_quiet_skip
  | (go_big_quiet_want; first
   | (refine quiet_load_has 26 _ rfl rfl hb4 d0 Tryz.underlying26 rfl ?_; simp only [Act.put, qD, qE, qF]; go_big_quiet_on)
   | (refine quiet_load_has 3 _ rfl rfl hb4 d1 Tryz.underlying3 rfl ?_; simp only [Act.put, qD, qE, qF]; go_big_quiet_on)
   | (go_big_quiet_op; first | go_big_quiet_on | go_big_quiet_call (first | with_reducible exact fun _ => rfl | with_reducible exact PL.out _ | with_reducible exact CF.out _ | with_reducible exact LV.out _))))
 refine wpQuiet_nil ?_
 try clear w
 intro w h
 clear PL CF LV
 go_upto_region 3 with (first
  | ((go_at_call 129; refine (AT.out _ h).mono ?_; clear h; rintro _ w ⟨v3, rfl, M2, h, hle2, hown⟩)))
 have hT2 := HT1.out.more hle2
 have ME := Lib.hid (fun (w : World) (h : Has σ M2 w) => mMem_eq h hT2.mach)
 have EP := Lib.hid (fun (w : World) (h : Has σ M2 w) => epEpoch_eq (q := q) (b := b) h (HSP.out M2 hle2))
 rw [HRC.out] at EP
 have CS := Lib.hid (fun (w : World) (h : Has σ M2 w) => memCas_eq h hT2.mach.mem HB.out.1 HB.out.2 a (x : Nat) (x + 1 : Nat))
 have hT3 := hT2.cas a (x : Nat) (x + 1 : Nat)
 have hb2 := hT2.base.le _ _ hbK
 have hf2 := hle2 _ _ hfb
 have hb43 := hT3.base.le _ _ hbK
 obtain ⟨A3, c3, rfl⟩ := hown.form
 have BK := Lib.hid (fun (v : Int) (M2' : Mm) (w : World) (bl : Nat) (h : Has σ M2' w) (hle : (casM M2 s.mp s.mem a (x : Nat) (x + 1 : Nat)).le M2') (hn : (casM M2 s.mp s.mem a (x : Nat) (x + 1 : Nat)) bl = none) (hbl : M2' bl = some (.cells #[.int .u64 v] 42)) => back1_eq h hT3 hle hn hbl HF.out)
 clear hT2 hT3 hown HT1 HSP HB HRC hle2 AT hfb hb4 HF
 generalize casM M2 s.mp s.mem a _ _ = M3 at *
 rw [HSW.out] at CS
 clear HSW
 go_upto_region 5 with (first
  | (with_reducible show wpList _ _ _ ({ dst := _, op := Op.load 3 _, type := _, pos := _, after := _, guard := _ } :: _) _ _; refine wpList_load1_has h rfl 3 _ rfl rfl hf2 f1 Tryz.underlying3 rfl ?_))
 refine wp_region_head (Has σ M2) 16 (by kernel_rfl) (by kernel_rfl) (fun _ _ _ _ _ h => h) h.drew ?_
 clear h
 simp only [List.take_succ_cons, List.take_zero, List.drop_succ_cons, List.drop_zero]
 repeat (first
  | go_big_quiet_skip
  | (go_big_quiet_want; first
   | (refine quiet_load_has 26 _ rfl rfl hb2 d0 Tryz.underlying26 rfl ?_; simp only [Act.put, qD, qE, qF]; go_big_quiet_on)
   | (refine quiet_agg_has 170 _ rfl rfl hb2 dx dz Tryz.underlying170 rfl (by kernel_rfl) ?_; simp only [Act.put, qD, qE, qF]; go_big_quiet_on)
   | (refine quiet_load_has 42 _ rfl rfl hf2 f2 Tryz.underlying42 rfl ?_; simp only [Act.put, qD, qE, qF]; go_big_quiet_on)
   | (go_big_quiet_op; first | go_big_quiet_on | go_big_quiet_call (first | with_reducible exact fun _ => rfl | with_reducible exact ME.out _ | with_reducible exact EP.out _))))
 refine wpQuiet_nil ?_
 try clear w
 intro w h
 clear hf2 hb2
 cases sw
 ·skip
  go_wp2_with (first
   | (go_at_call 121; refine (CS.out _ h).mono ?_; clear h; rintro _ w ⟨rfl, h⟩)
   | (with_reducible show wpList _ _ _ ({ dst := _, op := Op.load 38 _, type := _, pos := _, after := _, guard := _ } :: _) _ _; refine wpList_load1_has h rfl 38 _ rfl rfl hb43 d2 Tryz.underlying38 rfl ?_))
  obtain ⟨M4, hbx, hle4, hbl, hnl⟩ := h.box (.cells #[.int .u64 0] 42)
  generalize w.alloc _ = wx at hbx ⊢
  generalize w.heap.size = bl at hbl hnl ⊢
  clear h
  try clear w
  have h := hbx
  clear hbx
  obtain ⟨w, rfl⟩ : ∃ x : World, x = wx := ⟨_, rfl⟩
  go_wp2_with (first
   | ((go_at_call 93; refine (BK.out 0 M4 _ bl h hle4 hnl hbl).mono ?_; clear h; rintro _ w ⟨rfl, M5, lab5, h, hM5, hB5⟩)))
  go_end0
  exact ⟨rfl, M5, lab5, h, by rw [show tv = 0 from HTV.out.symm]; exact hM5, fun c o hc => hB5 c o (HKK.out _ _ hc)⟩
 ·skip
  go_wp2_with (first
   | (go_at_call 121; refine (CS.out _ h).mono ?_; clear h; rintro _ w ⟨rfl, h⟩)
   | (with_reducible show wpList _ _ _ ({ dst := _, op := Op.load 38 _, type := _, pos := _, after := _, guard := _ } :: _) _ _; refine wpList_load1_has h rfl 38 _ rfl rfl hb43 d2 Tryz.underlying38 rfl ?_))
  obtain ⟨M4, hbx, hle4, hbl, hnl⟩ := h.box (.cells #[.int .u64 1] 42)
  generalize w.alloc _ = wx at hbx ⊢
  generalize w.heap.size = bl at hbl hnl ⊢
  clear h
  try clear w
  have h := hbx
  clear hbx
  obtain ⟨w, rfl⟩ : ∃ x : World, x = wx := ⟨_, rfl⟩
  go_wp2_with (first
   | ((go_at_call 93; refine (BK.out 1 M4 _ bl h hle4 hnl hbl).mono ?_; clear h; rintro _ w ⟨rfl, M5, lab5, h, hM5, hB5⟩)))
  go_end0
  exact ⟨rfl, M5, lab5, h, by rw [show tv = 1 from HTV.out.symm]; exact hM5, fun c o hc => hB5 c o (HKK.out _ _ hc)⟩
end
section
open Go.RowKit
set_option maxHeartbeats 2000000 in
set_option maxRecDepth 20000 in
theorem ep_doAdv {σ w : World} {K M : Mm} {lab : Nat → Nat} {p t q b : Nat} {s : MachS} {fs : List FrameS} {f : FrameS} (h : Has σ M w) (hT : AtTop K M lab p s t q b fs f) (hfn : f.fn = 12) (hfs : fs.length < 1000000) {R : MachS → Prop} (hstep : ∀ (K1 M1 : Mm) (lab1 : Nat → Nat) (w1 : World), Has σ M1 w1 → AtTop K1 M1 lab1 p s t q b fs f → Calls Tryz.prog 104 #[.agg (runC p t q b)] w1 fun r w' => r = .returned (.tuple #[]) ∧ ∃ M' lab' s', Has σ M' w' ∧ Mach M' lab' p s' ∧ Base K1 M' lab' ∧ R s') : Calls Tryz.prog 63 #[.pointer (some ⟨p, 0, none⟩), .int .i64 (t : Nat)] w fun r w' => r = .returned (.tuple #[]) ∧ ∃ M' lab' s', Has σ M' w' ∧ Base K M' lab' ∧ Mach M' lab' p s' ∧ R s' := by
 obtain ⟨fv, hv, fbs, hTh⟩ := hT.thr
 have hlen : fbs.length = fs.length := by
  have h1 := hTh.flen
  rw [hT.fr] at h1
  simpa using h1
 have TH := Lib.hid (fun (w : World) (h : Has σ M w) => mThread_yes h hT.mach hT.tp)
 have TP := Lib.hid (fun (w : World) (h : Has σ M w) => thrTop_eq h hTh (by omega))
 have hfb := hT.obj
 have f0 : f.row[0]? = some (.int .i64 f.fn) := rfl
 have HT := Lib.hid hT
 have HS := Lib.hid hstep
 rw [hfn] at f0
 clear hT hTh hlen hfs hfn hstep
 generalize f.row = fr0 at *
 go_enter Tryz.func63, Tryz.ntmps63
 go_upto_region 3 with (first
  | (go_at_call 13; refine (TH.out _ h).mono ?_; clear h; rintro _ w ⟨rfl, h⟩)
  | (go_at_call 32; refine (TP.out _ h).mono ?_; clear h; rintro _ w ⟨rfl, h⟩)
  | ((with_reducible show wpList _ _ _ ({ dst := _, op := Op.alloc 170, type := _, pos := _, after := _, guard := _ } :: _) _ _); refine wpList_alloc_has h rfl 170 rfl _ ep_zrun ?_; clear h; intro bx w h hnx; try simp only [Act.put, qD, qE, qF])
  | ((with_reducible show wpList _ _ _ ({ dst := _, op := Op.store 170 _ _, type := _, pos := _, after := _, guard := _ } :: _) _ _); refine wpList_storeAll_has (cells := runC p t q b) h rfl 170 _ _ rfl rfl rfl (Mm.upd_same _ _ _) rfl rfl rfl (by kernel_rfl) rfl ?_; clear h; intro w h))
 rw [Mm.upd_upd] at h
 have hfb1 := Mm.upd_of (o := .cells (runC p t q b) 170) hnx hfb
 have hle := Mm.le_upd' hnx (.cells (runC p t q b) 170)
 have hbx := Mm.upd_same M bx (.cells (runC p t q b) 170)
 generalize M.upd bx _ = M1 at h hfb1 hle hbx
 obtain ⟨lab1, hT1⟩ := HT.out.more1 hle hnx hbx
 have hnK : K bx = none := by
  cases e : K bx with
  | none => rfl
  | some o => have := (HT.out.base _ _ e).1; rw [hnx] at this; cases this
 have HKK := Lib.hid (Mm.le_upd' hnK (.cells (runC p t q b) 170))
 have ST := Lib.hid (fun (w : World) (h : Has σ M1 w) => HS.out _ M1 lab1 w h hT1)
 clear hT1 hnK hnx hle TH TP
 unfold runC at ST hbx
 have dx : (#[.pointer (some ⟨p, 0, none⟩), .int .i64 (t : Nat), .pointer (some ⟨q, 0, none⟩), .pointer (some ⟨b, 0, none⟩)] : Array Value).extract 0 (0 + 4) = #[.pointer (some ⟨p, 0, none⟩), .int .i64 (t : Nat), .pointer (some ⟨q, 0, none⟩), .pointer (some ⟨b, 0, none⟩)] := rfl
 go_wp2_with (first
  | (with_reducible show wpList _ _ _ ({ dst := _, op := Op.load 3 _, type := _, pos := _, after := _, guard := _ } :: _) _ _; refine wpList_load1_has h rfl 3 _ rfl rfl hfb1 f0 Tryz.underlying3 rfl ?_)
  | ((with_reducible show wpList _ _ _ ({ dst := _, op := Op.load 170 _, type := _, pos := _, after := _, guard := _ } :: _) _ _); refine wpList_agg_has h rfl 170 _ rfl rfl hbx dx rfl Tryz.underlying170 rfl (by kernel_rfl) ?_; try simp only [Act.put, qD, qE, qF])
  | (go_at_call 104; refine (ST.out _ h).mono ?_; clear h; rintro _ w ⟨rfl, M2, lab2, s2, h, hM2, hB2, hR2⟩))
 go_end0
 exact ⟨rfl, M2, lab2, s2, h, fun c o hc => hB2 c o (HKK.out _ _ hc), hM2, hR2⟩
theorem does_adv0 {σ : World} {p t q l n : Nat} {c : Nat → Int} {tp : List Nat} {g : GM} {fs : List Fr} {F : Fr} (hn : n < 100000) (ht : (t : Int) < c 1) (hq : tp[t]? = some q) (hl : levelOf c t = (l : Nat)) (hlc : (l : Int) < c 0) (hthr : g.thr t = fs ++ [F]) (hfs : fs.length < 100000) {T : Nat} (hT1c : c 1 = (T : Nat)) (h1 : F.fn = 12) (hp : F.pc = 0) : DoesTo 63 σ p t c tp n l g (g.top t fs ((F.reg 0 (g.w l 1)).goto 1)) := by
 intro K s M lab w h hM hB hA
 obtain ⟨b, hT⟩ := hA.atTop hM hB ht hq hthr
 obtain rfl := hA.cc
 have hmay := hA.may
 have b1 : (s.tick l).mem.acc < 1000000000 := by show s.mem.acc < _; have := hA.acc; omega
 have b2 : (s.tick l).mem.wr < 1000000000 := by show s.mem.wr < _; have := hA.wr; omega
 have hl' : levelOf (s.tick l).c (t : Nat) = (l : Nat) := hl
 have hlc' : (l : Int) < (s.tick l).c 0 := hlc
 have hfs' : (fs.map Fr.enc).length < 1000000 := by rw [List.length_map]; omega
 have gl : s.given.length ≤ n + 1 := Nat.le_succ_of_le hA.given
 have hk := inK_epoch s.c
 have hit := atK_hit hmay hA.memN hlc hk
 have hv : s.mem.load (atK s.c (l : Nat) 1 0 0) = (g.w l 1 : Int) := load_at' hit (by rw [hA.words.at hmay hlc hk, off_epoch])
 refine (ep_doAdv h hT (by show (F.fn : Int) = 12; omega) hfs' (R := fun s' => Did s.c n l s s' (g.top t fs ((F.reg 0 (g.w l 1)).goto 1))) fun K1 M1 lab1 w1 h1' hT1 => ?_).mono fun r w' ⟨e, M', lab', s', a1, a2, a3, a4⟩ => ⟨e, M', lab', s', a1, a3, a2, a4⟩
 refine (adv_0 h1' hT1 (by show (F.pc : Int) = 0; omega) hl' hT1c (spotAt_of hT1.mach hl' hlc' hk) b1).mono fun r w' ⟨e, M', lab', h', hT'⟩ => ⟨e, M', lab', _, h', hT'.mach, hT'.base, ?_⟩
 refine Did.one hA hk (Nat.zero_le _) ⟨rfl, rfl, rfl, rfl, rfl⟩ (at_to' hit) hA.words (hA.ward.mono (Nat.le_succ _)) ?_ gl
 have := hA.thr.top (t := t) (fs := fs) (F := (F.reg 0 (g.w l 1)).goto 1)
 rw [← fr_goto, ← fr_reg, ← hv] at this
 exact this
theorem does_on {σ : World} {p t q l n : Nat} {c : Nat → Int} {tp : List Nat} {g : GM} {fs : List Fr} {F : Fr} (hn : n < 100000) (ht : (t : Int) < c 1) (hq : tp[t]? = some q) (hl : levelOf c t = (l : Nat)) (hlc : (l : Int) < c 0) (hthr : g.thr t = fs ++ [F]) (hfs : fs.length < 100000) {T : Nat} (hT1c : c 1 = (T : Nat)) (h1 : F.fn = 12) (hp : F.pc = 1) {y : Nat} (hy : (atC c T l)[F.r 1]? = some y) (hr8 : F.r 1 < 8) (hr : F.r 0 < 4611686018427387904) (hz : g.w l (10 + y) < 18446744073709551616) (hlag : lagsN (g.w l (10 + y)) (F.r 0) = false) (hne : F.r 1 + 1 ≠ (atC c T l).length) : DoesTo 63 σ p t c tp n l g (g.top t fs (F.reg 1 (F.r 1 + 1))) := by
 intro K s M lab w h hM hB hA
 obtain ⟨b, hT⟩ := hA.atTop hM hB ht hq hthr
 obtain rfl := hA.cc
 have hmay := hA.may
 have b1 : (s.tick l).mem.acc < 1000000000 := by show s.mem.acc < _; have := hA.acc; omega
 have b2 : (s.tick l).mem.wr < 1000000000 := by show s.mem.wr < _; have := hA.wr; omega
 have hl' : levelOf (s.tick l).c (t : Nat) = (l : Nat) := hl
 have hlc' : (l : Int) < (s.tick l).c 0 := hlc
 have hfs' : (fs.map Fr.enc).length < 1000000 := by rw [List.length_map]; omega
 have gl : s.given.length ≤ n + 1 := Nat.le_succ_of_le hA.given
 have y8 : y < 8 := by
  have hm := List.mem_of_getElem? hy
  have := List.mem_range.1 (List.mem_filter.1 hm).1
  have := hmay.2.1
  omega
 have hk := inK_active s.c y8
 have hit := atK_hit hmay hA.memN hlc hk
 have hv : s.mem.load (atK s.c (l : Nat) 6 (y : Nat) 0) = (g.w l (10 + y) : Int) := load_at' hit (by rw [hA.words.at hmay hlc hk, off_active])
 refine (ep_doAdv h hT (by show (F.fn : Int) = 12; omega) hfs' (R := fun s' => Did s.c n l s s' (g.top t fs (F.reg 1 (F.r 1 + 1)))) fun K1 M1 lab1 w1 h1' hT1 => ?_).mono fun r w' ⟨e, M', lab', s', a1, a2, a3, a4⟩ => ⟨e, M', lab', s', a1, a3, a2, a4⟩
 refine (adv_1on h1' hT1 (by show (F.pc : Int) = 1; omega) hl' hT1c rfl (x := F.r 0) (r := F.r 1) (y := y) rfl hr rfl hr8 hy (spotAt_of hT1.mach hl' hlc' hk) hv hz b1 hlag hne).mono fun r w' ⟨e, M', lab', h', hT'⟩ => ⟨e, M', lab', _, h', hT'.mach, hT'.base, ?_⟩
 refine Did.one hA hk (Nat.zero_le _) ⟨rfl, rfl, rfl, rfl, rfl⟩ (at_to' hit) hA.words (hA.ward.mono (Nat.le_succ _)) ?_ gl
 have := hA.thr.top (t := t) (fs := fs) (F := F.reg 1 (F.r 1 + 1))
 rw [← fr_reg] at this
 exact this
theorem does_last {σ : World} {p t q l n : Nat} {c : Nat → Int} {tp : List Nat} {g : GM} {fs : List Fr} {F : Fr} (hn : n < 100000) (ht : (t : Int) < c 1) (hq : tp[t]? = some q) (hl : levelOf c t = (l : Nat)) (hlc : (l : Int) < c 0) (hthr : g.thr t = fs ++ [F]) (hfs : fs.length < 100000) {T : Nat} (hT1c : c 1 = (T : Nat)) (h1 : F.fn = 12) (hp : F.pc = 1) {y : Nat} (hy : (atC c T l)[F.r 1]? = some y) (hr8 : F.r 1 < 8) (hr : F.r 0 < 4611686018427387904) (hz : g.w l (10 + y) < 18446744073709551616) (hlag : lagsN (g.w l (10 + y)) (F.r 0) = false) (hne : F.r 1 + 1 = (atC c T l).length) : DoesTo 63 σ p t c tp n l g (g.top t fs ((F.reg 1 (F.r 1 + 1)).goto 2)) := by
 intro K s M lab w h hM hB hA
 obtain ⟨b, hT⟩ := hA.atTop hM hB ht hq hthr
 obtain rfl := hA.cc
 have hmay := hA.may
 have b1 : (s.tick l).mem.acc < 1000000000 := by show s.mem.acc < _; have := hA.acc; omega
 have b2 : (s.tick l).mem.wr < 1000000000 := by show s.mem.wr < _; have := hA.wr; omega
 have hl' : levelOf (s.tick l).c (t : Nat) = (l : Nat) := hl
 have hlc' : (l : Int) < (s.tick l).c 0 := hlc
 have hfs' : (fs.map Fr.enc).length < 1000000 := by rw [List.length_map]; omega
 have gl : s.given.length ≤ n + 1 := Nat.le_succ_of_le hA.given
 have y8 : y < 8 := by
  have hm := List.mem_of_getElem? hy
  have := List.mem_range.1 (List.mem_filter.1 hm).1
  have := hmay.2.1
  omega
 have hk := inK_active s.c y8
 have hit := atK_hit hmay hA.memN hlc hk
 have hv : s.mem.load (atK s.c (l : Nat) 6 (y : Nat) 0) = (g.w l (10 + y) : Int) := load_at' hit (by rw [hA.words.at hmay hlc hk, off_active])
 refine (ep_doAdv h hT (by show (F.fn : Int) = 12; omega) hfs' (R := fun s' => Did s.c n l s s' (g.top t fs ((F.reg 1 (F.r 1 + 1)).goto 2))) fun K1 M1 lab1 w1 h1' hT1 => ?_).mono fun r w' ⟨e, M', lab', s', a1, a2, a3, a4⟩ => ⟨e, M', lab', s', a1, a3, a2, a4⟩
 refine (adv_1last h1' hT1 (by show (F.pc : Int) = 1; omega) hl' hT1c rfl (x := F.r 0) (r := F.r 1) (y := y) rfl hr rfl hr8 hy (spotAt_of hT1.mach hl' hlc' hk) hv hz b1 hlag hne).mono fun r w' ⟨e, M', lab', h', hT'⟩ => ⟨e, M', lab', _, h', hT'.mach, hT'.base, ?_⟩
 refine Did.one hA hk (Nat.zero_le _) ⟨rfl, rfl, rfl, rfl, rfl⟩ (at_to' hit) hA.words (hA.ward.mono (Nat.le_succ _)) ?_ gl
 have := hA.thr.top (t := t) (fs := fs) (F := (F.reg 1 (F.r 1 + 1)).goto 2)
 rw [← fr_goto, ← fr_reg] at this
 exact this
theorem does_goes {σ : World} {p t q l n : Nat} {c : Nat → Int} {tp : List Nat} {g : GM} {fs : List Fr} {F : Fr} (hn : n < 100000) (ht : (t : Int) < c 1) (hq : tp[t]? = some q) (hl : levelOf c t = (l : Nat)) (hlc : (l : Int) < c 0) (hthr : g.thr t = fs ++ [F]) (hfs : fs.length < 100000) {T : Nat} (hT1c : c 1 = (T : Nat)) (h1 : F.fn = 12) (hp : F.pc = 2) (hr : F.r 0 < 4611686018427387904) (he : g.w l 1 = F.r 0) : DoesTo 63 σ p t c tp n l g ((g.set l 1 (F.r 0 + 1)).back t fs [1]) := by
 intro K s M lab w h hM hB hA
 obtain ⟨b, hT⟩ := hA.atTop hM hB ht hq hthr
 obtain rfl := hA.cc
 have hmay := hA.may
 have b1 : (s.tick l).mem.acc < 1000000000 := by show s.mem.acc < _; have := hA.acc; omega
 have b2 : (s.tick l).mem.wr < 1000000000 := by show s.mem.wr < _; have := hA.wr; omega
 have hl' : levelOf (s.tick l).c (t : Nat) = (l : Nat) := hl
 have hlc' : (l : Int) < (s.tick l).c 0 := hlc
 have hfs' : (fs.map Fr.enc).length < 1000000 := by rw [List.length_map]; omega
 have gl : s.given.length ≤ n + 1 := Nat.le_succ_of_le hA.given
 have hk := inK_epoch s.c
 have hit := atK_hit hmay hA.memN hlc hk
 have hf0 : s.mem.f (atK s.c (l : Nat) 1 0 0).toNat = (g.w l 1 : Int) := by rw [hA.words.at hmay hlc hk, off_epoch]
 have hsw : s.mem.swaps (atK s.c (l : Nat) 1 0 0) (F.r 0 : Nat) = true := by unfold MemS.swaps; rw [hit, hf0, he]; simp
 refine (ep_doAdv h hT (by show (F.fn : Int) = 12; omega) hfs' (R := fun s' => Did s.c n l s s' ((g.set l 1 (F.r 0 + 1)).back t fs [1])) fun K1 M1 lab1 w1 h1' hT1 => ?_).mono fun r w' ⟨e, M', lab', s', a1, a2, a3, a4⟩ => ⟨e, M', lab', s', a1, a3, a2, a4⟩
 refine (adv_2 h1' hT1 (by show (F.pc : Int) = 2; omega) hl' hT1c (x := F.r 0) rfl hr (spotAt_of hT1.mach hl' hlc' hk) b1 b2 hfs').mono fun r w' ⟨e, M', lab', h', hM', hB'⟩ => ⟨e, M', lab', _, h', hM', hB', ?_⟩
 have hsw' : (s.tick l).mem.swaps (atK (s.tick l).c (l : Nat) 1 0 0) (F.r 0 : Nat) = true := hsw
 rw [hsw', if_pos rfl]
 refine Did.one hA hk (Nat.le_refl _) ⟨rfl, rfl, rfl, rfl, rfl⟩ (cas_yes' hit hsw) ?_ (hA.ward.mono (Nat.le_succ _)) ((hA.thr.set l 1 (F.r 0 + 1)).back (t := t) (fs := fs) (us := [1]) (x := s.thr t) ⟨by rw [hA.thr.fr t ht, hthr]; simp, rfl, rfl⟩) gl
 have := hA.words.set hmay (l := l) hk (F.r 0 + 1)
 rw [off_epoch] at this
 exact this
end
section
open Go.RowKit
section
variable {σ : World} {p t q l n B S m gens : Nat} {c : Nat → Int} {tp : List Nat} {g : GM}
theorem lhand (ht : (t : Int) < c 1) (hq : tp[t]? = some q) (hl : levelOf c t = (l : Nat)) (hlc : (l : Int) < c 0) : ∀ (n : Nat) (g g2 : GM) (fs : List Fr) (F : Fr), n < 100000 → (F.fn = 1 ∨ F.fn = 2) → g.thr t = fs ++ [F] → fs.length < 100000 → DoesTo 105 σ p t c tp n l g g2 → DoesTo 15 σ p t c tp n l g g2 :=
 fun n g g2 fs F hn hf hthr hfs D => hand_li hn ht hq hl hlc hthr hfs (by omega) (by omega) (by omega) (by omega) (hand_ep hn ht hq hl hlc hthr hfs (by omega) (by omega) (by omega) D)
theorem reg_same (F : Fr) (i v : Nat) : (F.reg i v).r i = v := put1_same _ _ _
theorem reg_ne {F : Fr} {i v j : Nat} (h : j ≠ i) : (F.reg i v).r j = F.r j := put1_ne h
theorem one_len {t : Nat} {g : GM} {F : Fr} : 0 < ((g.top t [] F).thr t).length ∧ ((g.top t [] F).thr t).length < 1000 := by rw [top_thr]; simp
/-- Reserve looks over Cells that aren't empty. -/
theorem rsv_scan (ht : (t : Int) < c 1) (hq : tp[t]? = some q) (hl : levelOf c t = (l : Nat)) (hlc : (l : Int) < c 0) (hB' : c 11 = (B : Nat)) : ∀ (k n : Nat) (F : Fr), n + k < 80000 → F.fn = 20 → F.pc = 0 → F.r 0 + k ≤ B → (∀ i, F.r 0 ≤ i → i < F.r 0 + k → g.w l (18 + i) ≠ 0) → ∃ F2, Steps (fun n g g2 => DoesTo 15 σ p t c tp n l g g2) t 0 n k (g.top t [] F) (g.top t [] F2) ∧ F2.fn = 20 ∧ F2.pc = 0 ∧ F2.r 0 = F.r 0 + k
 | 0, n, F, _, h1, h2, _, _ => ⟨F, rfl, h1, h2, rfl⟩
 | k + 1, n, F, hn, h1, h2, h3, h4 => by
  have D := rs_0n (σ := σ) (p := p) (n := n) (g := g.top t [] F) (fs := []) (by omega) ht hq hl hlc top_thr (by simp) hB' h1 h2 (by omega) (h4 _ (Nat.le_refl _) (by omega))
  rw [top_top] at D
  have e0 : (F.reg 0 (F.r 0 + 1)).r 0 = F.r 0 + 1 := reg_same _ _ _
  obtain ⟨F2, a, b, d, e⟩ := rsv_scan ht hq hl hlc hB' k (n + 1) (F.reg 0 (F.r 0 + 1)) (by omega) h1 h2 (by rw [e0]; omega) fun i i1 i2 => h4 i (by rw [e0] at i1; omega) (by rw [e0] at i2; omega)
  exact ⟨F2, .cons D one_len.1 one_len.2 a, b, d, by rw [e, e0]; omega⟩
/-- Reserve of no Cell. -/
theorem steps_rsv_no (ht : (t : Int) < c 1) (hq : tp[t]? = some q) (hl : levelOf c t = (l : Nat)) (hlc : (l : Int) < c 0) (hB' : c 11 = (B : Nat)) (hn : n < 70000) (hB : B ≤ 1000) (h0 : ∀ i, i < B → g.w l (18 + i) ≠ 0) : Steps (fun n g g2 => DoesTo 15 σ p t c tp n l g g2) t 0 n (B + 1) (g.top t [] ⟨20, 0, fun i => ([] : List Nat).getD i 0⟩) (g.back t [] [0]) := by
 obtain ⟨F2, a, b, d, e⟩ := rsv_scan (σ := σ) (p := p) (g := g) ht hq hl hlc hB' B n ⟨20, 0, fun i => ([] : List Nat).getD i 0⟩ (by omega) rfl rfl (by show 0 + B ≤ B; omega) fun i _ i2 => h0 i (by have : i < 0 + B := i2; omega)
 have e' : F2.r 0 = B := e.trans (Nat.zero_add _)
 have D := rs_past (σ := σ) (p := p) (n := n + B) (g := g.top t [] F2) (fs := []) (by omega) ht hq hl hlc top_thr (by simp) hB' b (by omega) (by omega)
 rw [top_back] at D
 exact a.trans (.cons D one_len.1 one_len.2 rfl)
/-- Reserve of the first Cell that is empty. -/
theorem steps_rsv (ht : (t : Int) < c 1) (hq : tp[t]? = some q) (hl : levelOf c t = (l : Nat)) (hlc : (l : Int) < c 0) (hB' : c 11 = (B : Nat)) (hn : n < 70000) (hB : B ≤ 1000) {j : Nat} (hj : j < B) (h0 : ∀ i, i < j → g.w l (18 + i) ≠ 0) (hz : g.w l (18 + j) = 0) : Steps (fun n g g2 => DoesTo 15 σ p t c tp n l g g2) t 0 n (j + 2) (g.top t [] ⟨20, 0, fun i => ([] : List Nat).getD i 0⟩) ((g.set l (18 + j) (mkHold t)).back t [] [1, j]) := by
 obtain ⟨F2, a, b, d, e⟩ := rsv_scan (σ := σ) (p := p) (g := g) ht hq hl hlc hB' j n ⟨20, 0, fun i => ([] : List Nat).getD i 0⟩ (by omega) rfl rfl (by show 0 + j ≤ B; omega) fun i _ i2 => h0 i (by have : i < 0 + j := i2; omega)
 have e' : F2.r 0 = j := e.trans (Nat.zero_add _)
 have D := rs_0z (σ := σ) (p := p) (n := n + j) (g := g.top t [] F2) (fs := []) (by omega) ht hq hl hlc top_thr (by simp) hB' b d (by omega) (by rw [e']; exact hz)
 rw [top_top] at D
 have D2 := rs_1y (σ := σ) (p := p) (n := n + j + 1) (g := g.top t [] (F2.goto 1)) (F := F2.goto 1) (fs := []) (by omega) ht hq hl hlc top_thr (by simp) hB' b rfl (by show F2.r 0 < B; omega) (by show g.w l (18 + F2.r 0) = 0; rw [e']; exact hz)
 have e2 : (F2.goto 1).r 0 = j := e'
 rw [e2, top_set, top_back] at D2
 exact a.trans (.cons D one_len.1 one_len.2 (.cons D2 one_len.1 one_len.2 rfl))
/-- Release. -/
theorem steps_rel (ht : (t : Int) < c 1) (hq : tp[t]? = some q) (hl : levelOf c t = (l : Nat)) (hlc : (l : Int) < c 0) (hB' : c 11 = (B : Nat)) (hn : n < 70000) {j : Nat} (hj : j < B) (hB : B ≤ 1000) : Steps (fun n g g2 => DoesTo 15 σ p t c tp n l g g2) t 0 n 1 (g.top t [] ⟨21, 0, fun i => [j].getD i 0⟩) ((g.set l (18 + j) 0).back t [] []) := by
 have D := rl_0 (σ := σ) (p := p) (n := n) (g := g.top t [] ⟨21, 0, fun i => [j].getD i 0⟩) (fs := []) (by omega) ht hq hl hlc top_thr (by simp) hB' rfl (by exact hj)
 have e2 : (⟨21, 0, fun i => [j].getD i 0⟩ : Fr).r 0 = j := rfl
 rw [e2, top_set, top_back] at D
 exact .cons D one_len.1 one_len.2 rfl
/-- Fill. -/
theorem steps_fill (ht : (t : Int) < c 1) (hq : tp[t]? = some q) (hl : levelOf c t = (l : Nat)) (hlc : (l : Int) < c 0) (hB' : c 11 = (B : Nat)) (hn : n < 70000) {j s gn : Nat} (hj : j < B) (hB : B ≤ 1000) (hs : s < 1000000) (hg : gn < 9223372036854775808) (he : g.w l 1 < 18446744073709551616) : Steps (fun n g g2 => DoesTo 15 σ p t c tp n l g g2) t 0 n 2 (g.top t [] ⟨22, 0, fun i => [j, s, gn].getD i 0⟩) ((g.set l (18 + j) (mkCell s gn (g.w l 1))).back t [] []) := by
 have D := fl_0 (σ := σ) (p := p) (n := n) (g := g.top t [] ⟨22, 0, fun i => [j, s, gn].getD i 0⟩) (fs := []) (by omega) ht hq hl hlc top_thr (by simp) hB' rfl rfl
 rw [top_top] at D
 obtain ⟨F1, hF1⟩ : ∃ F1, F1 = ((⟨22, 0, fun i => [j, s, gn].getD i 0⟩ : Fr).reg 3 (g.w l 1)).goto 1 := ⟨_, rfl⟩
 have D' : DoesTo 15 σ p t c tp n l (g.top t [] ⟨22, 0, fun i => [j, s, gn].getD i 0⟩) (g.top t [] F1) := by rw [hF1]; exact D
 have f1 : F1.fn = 22 ∧ F1.pc = 1 ∧ F1.r 0 = j ∧ F1.r 1 = s ∧ F1.r 2 = gn ∧ F1.r 3 = g.w l 1 := by rw [hF1]; exact ⟨rfl, rfl, rfl, rfl, rfl, rfl⟩
 have D2 := fl_1 (σ := σ) (p := p) (n := n + 1) (g := g.top t [] F1) (F := F1) (fs := []) (by omega) ht hq hl hlc top_thr (by simp) hB' f1.1 f1.2.1 (by omega) (by omega) (by omega) (by rw [f1.2.2.2.2.2]; exact he)
 rw [f1.2.2.1, f1.2.2.2.1, f1.2.2.2.2.1, f1.2.2.2.2.2, top_set, top_back] at D2
 exact .cons D' one_len.1 one_len.2 (.cons D2 one_len.1 one_len.2 rfl)
end
/-- Whether a Cell is to be given: the Cells behind, and how many. -/
def isOld (e v : Nat) : Bool := v != 0 && oldB (cutN v 32 30) e
def swN (e : Nat) : Nat → Nat → List Nat → List Nat × Nat
 | 0, _, C => (C, 0)
 | k + 1, i, C => if isOld e (C.getD i 0) then ((swN e k (i + 1) (C.set i 0)).1, (swN e k (i + 1) (C.set i 0)).2 + 1) else swN e k (i + 1) C
/-- Nothing else is changed. -/
structure Far (t l : Nat) (g g2 : GM) : Prop where
 w : ∀ l' o, l' ≠ l ∨ (1 ≤ o ∧ o < 18) → g2.w l' o = g.w l' o
 held : ∀ l' i, l' ≠ l → g2.held l' i = g.held l' i
 thr : ∀ u, u ≠ t → g2.thr u = g.thr u
theorem Far.refl (t l : Nat) (g : GM) : Far t l g g := ⟨fun _ _ _ => rfl, fun _ _ _ => rfl, fun _ _ => rfl⟩
theorem Far.trans {t l : Nat} {g g1 g2 : GM} (h : Far t l g g1) (h2 : Far t l g1 g2) : Far t l g g2 := ⟨fun a b d => (h2.w a b d).trans (h.w a b d), fun a b d => (h2.held a b d).trans (h.held a b d), fun a d => (h2.thr a d).trans (h.thr a d)⟩
theorem Far.cell {t l i v : Nat} {g : GM} : Far t l g (g.set l (18 + i) v) := ⟨fun l' o h => by rw [set_w, if_neg fun hh => by rcases h with h | h; exact h hh.1; have := hh.2; omega], fun _ _ _ => rfl, fun _ _ => rfl⟩
theorem Far.top {t l : Nat} {g : GM} {fs : List Fr} {F : Fr} : Far t l g (g.top t fs F) := ⟨fun _ _ _ => rfl, fun _ _ _ => rfl, fun u hu => put1_ne hu⟩
theorem Far.back {t l : Nat} {g : GM} {fs : List Fr} {us : List Nat} : Far t l g (g.back t fs us) := ⟨fun _ _ _ => rfl, fun _ _ _ => rfl, fun u hu => put1_ne hu⟩
theorem giveG_thr {B S gens : Nat} {g : GM} {t l x : Nat} {fs : List Fr} : (giveG B S gens g t l fs x).thr = put1 g.thr t fs := by
 unfold giveG
 split <;> rfl
theorem Far.give {t l B S gens x : Nat} {g : GM} {fs : List Fr} (x2 : x ≤ S) : Far t l g (giveG B S gens g t l fs x) := by
 refine ⟨fun l' o h => give_w0 _ _ fun hh => ?_, fun l' i h => by rw [give_held, if_neg fun hh => h hh.1], fun u hu => by rw [giveG_thr]; exact put1_ne hu⟩
 rcases h with h | h
 ·exact h hh.1
 ·rcases hh.2 with e | e | e
  ·omega
  ·unfold oLk at e; omega
  ·unfold oNd at e; omega
theorem Far.take {t l B S x : Nat} {g : GM} {fs : List Fr} : Far t l g (takeG B S g t l fs x) := by
 refine ⟨fun l' o h => ?_, fun l' i h => ?_, fun u hu => put1_ne hu⟩
 ·show (g.set l 0 _).w l' o = _
  rw [set_w, if_neg fun hh => by rcases h with h | h; exact h hh.1; have := hh.2; omega]
 ·show (GM.hold (g.set l 0 _) l x).held l' i = _
  rw [hold_held, if_neg fun hh => h hh.1]; rfl
section
variable {σ : World} {p t q l n B S m gens : Nat} {c : Nat → Int} {tp : List Nat} {g : GM} {had : List Nat}
theorem LbX.topped {L C : List Nat} {fs : List Fr} {F : Fr} (h : LbX S B gens m g l L C had) : LbX S B gens m (g.top t fs F) l L C had := h.congr (fun _ _ => rfl) fun _ => rfl
/-- Sweep goes over all Cells. -/
theorem sw_scan (ht : (t : Int) < c 1) (hq : tp[t]? = some q) (hl : levelOf c t = (l : Nat)) (hlc : (l : Int) < c 0) (hB' : c 11 = (B : Nat)) (hS' : c 10 = (S : Nat)) (hg' : c 12 = (gens : Nat)) (hS60 : S ≤ 60) (hB60 : B ≤ 1000) {e : Nat} (he : e < 18446744073709551616) : ∀ (k n m : Nat) (g : GM) (L C : List Nat) (F : Fr), LbX S B gens m g l L C had → n + 13 * k < 60000 → m + k < 800000 → F.fn = 23 → F.pc = 1 → F.r 1 + k = B → F.r 0 = e → F.r 3 + k < 900000 → ∃ (K : Nat) (g2 : GM) (L2 : List Nat) (F2 : Fr), K ≤ 13 * k ∧ Steps (fun n g g2 => DoesTo 15 σ p t c tp n l g g2) t 0 n K (g.top t [] F) (g2.top t [] F2) ∧ F2.fn = 23 ∧ F2.pc = 1 ∧ F2.r 1 = B ∧ F2.r 3 = F.r 3 + (swN e k (F.r 1) C).2 ∧ LbX S B gens (m + k) g2 l L2 (swN e k (F.r 1) C).1 had ∧ Far t l g g2
 | 0, n, m, g, L, C, F, hI, _, _, h1, h2, h3, _, _ => ⟨0, g, L, F, Nat.le_refl _, rfl, h1, h2, by omega, rfl, hI, .refl _ _ _⟩
 | k + 1, n, m, g, L, C, F, hI, hn, hm, h1, h2, h3, h4, h5 => by
  obtain ⟨i, hi⟩ : ∃ i, F.r 1 = i := ⟨_, rfl⟩
  have hiB : i < B := by omega
  obtain ⟨v, hv⟩ : ∃ v, C[i]? = some v := ⟨_, List.getElem?_eq_getElem (by rw [hI.len]; exact hiB)⟩
  have hvD : C.getD i 0 = v := by rw [List.getD_eq_getElem?_getD, hv]; rfl
  have hw : g.w l (18 + i) = v := (hI.w i hiB).trans hvD
  have hv64 : v < 18446744073709551616 := by
   by_cases e : v = 0
   ·omega
   ·exact (hI.ok v (List.mem_of_getElem? hv) e).1
  by_cases ho : isOld e v = true
  ·have hv0 : v ≠ 0 := by unfold isOld at ho; simp at ho; exact ho.1
   have hov : oldB (cutN v 32 30) e = true := by unfold isOld at ho; simp at ho; exact ho.2
   have hkd := (hI.ok v (List.mem_of_getElem? hv) hv0).2
   obtain ⟨x1, x2, x3, x4⟩ := hI.busy (x := cutN v 0 8) (List.mem_cons_of_mem _ (List.mem_append_right _ ((cSlots_clear hv0 C i hv).mem_iff.2 List.mem_cons_self)))
   have D1 := sp_yes (σ := σ) (p := p) (n := n) (g := g.top t [] F) (F := F) (fs := []) (by omega) ht hq hl hlc top_thr (by simp) hB' h1 h2 (by omega) (by omega) (by show g.w l (18 + F.r 1) < _; rw [hi, hw]; exact hv64) (by show kindN (g.w l (18 + F.r 1)) = 2; rw [hi, hw]; exact hkd) (by show oldB (cutN (g.w l (18 + F.r 1)) 32 30) (F.r 0) = true; rw [hi, hw, h4]; exact hov)
   rw [top_top] at D1
   obtain ⟨F1, hF1⟩ : ∃ F1, F1 = (F.reg 2 ((g.top t [] F).w l (18 + F.r 1))).goto 2 := ⟨_, rfl⟩
   rw [← hF1] at D1
   have f1 : F1.fn = 23 ∧ F1.pc = 2 ∧ F1.r 0 = e ∧ F1.r 1 = i ∧ F1.r 2 = v ∧ F1.r 3 = F.r 3 := by
    rw [hF1]
    refine ⟨h1, rfl, (gr_ne (by decide)).trans h4, (gr_ne (by decide)).trans hi, (gr_same _ _ _ _).trans ?_, gr_ne (by decide)⟩
    show g.w l (18 + F.r 1) = v
    rw [hi, hw]
   have D2 := sp_2y (σ := σ) (p := p) (n := n + 1) (g := g.top t [] F1) (F := F1) (fs := []) (by omega) ht hq hl hlc top_thr (by simp) hB' f1.1 f1.2.1 (by omega) (by omega) (by rw [f1.2.2.2.2.1]; exact hkd) (by show g.w l (18 + F1.r 1) = F1.r 2; rw [f1.2.2.2.1, f1.2.2.2.2.1, hw])
   rw [f1.2.2.2.1, f1.2.2.2.2.1, List.nil_append, top_set, top_top] at D2
   obtain ⟨F3, hF3⟩ : ∃ F3, F3 = F1.goto 3 := ⟨_, rfl⟩
   rw [← hF3] at D2
   have f3 : F3.fn = 23 ∧ F3.pc = 3 ∧ F3.r 0 = e ∧ F3.r 1 = i ∧ F3.r 3 = F.r 3 := by rw [hF3]; exact ⟨f1.1, rfl, f1.2.2.1, f1.2.2.2.1, f1.2.2.2.2.2⟩
   obtain ⟨gs, hgs⟩ : ∃ gs, gs = g.set l (18 + i) (mkHold t) := ⟨_, rfl⟩
   rw [← hgs] at D2
   have hIs : LvX S B gens m gs l L := by rw [hgs]; exact hI.lv.cell hiB
   obtain ⟨kg, kg1, kg0, SG⟩ := steps_give (D := (fun n g g2 => DoesTo 15 σ p t c tp n l g g2)) (x := cutN v 0 8) (p := p) (d := 0) (n := n + 2) (g := gs.top t [F3] ⟨2, 0, fun i => [cutN v 0 8].getD i 0⟩) (fs := [F3]) (F := ⟨2, 0, fun i => [cutN v 0 8].getD i 0⟩) (lhand ht hq hl hlc) (by omega) ht hq hl hlc top_thr (by simp) (Nat.zero_le _) hB' hS' hS60 (by omega) (hIs.rest.congr rfl (fun _ _ _ => rfl) (fun _ _ _ => rfl) fun _ _ => rfl) hg' rfl rfl rfl x1 x2 (by rw [hgs]; exact x3)
   rw [giveG_top] at SG
   obtain ⟨G1, hG1⟩ : ∃ G1, G1 = giveG B S gens gs t l [F3] (cutN v 0 8) := ⟨_, rfl⟩
   rw [← hG1] at SG
   have t1 : G1.thr t = [F3] := by rw [hG1, giveG_thr]; exact put1_same _ _ _
   have D3 := sp_3 (σ := σ) (p := p) (n := n + 2 + kg) (g := G1) (F := F3) (fs := []) (by omega) ht hq hl hlc t1 (by simp) hB' f3.1 f3.2.1 (by omega) (by omega)
   rw [f3.2.2.2.1, f3.2.2.2.2] at D3
   obtain ⟨F4, hF4⟩ : ∃ F4, F4 = ((F3.reg 3 (F.r 3 + 1)).reg 1 (i + 1)).goto 1 := ⟨_, rfl⟩
   rw [← hF4] at D3
   have f4 : F4.fn = 23 ∧ F4.pc = 1 ∧ F4.r 0 = e ∧ F4.r 1 = i + 1 ∧ F4.r 3 = F.r 3 + 1 := by
    rw [hF4]
    exact ⟨f3.1, rfl, (gr_ne (by decide)).trans ((reg_ne (by decide)).trans f3.2.2.1), gr_same _ _ _ _, (gr_ne (by decide)).trans (reg_same _ _ _)⟩
   have hI2 : LbX S B gens (m + 1) (G1.set l (18 + i) 0) l (gaveL B S gens g l (cutN v 0 8) L) (C.set i 0) had := by
    rw [hG1, hgs]
    exact hI.swept hv hv0 (by omega) hS60
   obtain ⟨K, g2, L2, F2, k1, k2, k3, k4, k5, k6, k7, k8⟩ := sw_scan ht hq hl hlc hB' hS' hg' hS60 hB60 he k (n + (3 + kg)) (m + 1) (G1.set l (18 + i) 0) _ (C.set i 0) F4 hI2 (by omega) (by omega) f4.1 f4.2.1 (by omega) f4.2.2.1 (by omega)
   have eN : swN e (k + 1) i C = ((swN e k (i + 1) (C.set i 0)).1, (swN e k (i + 1) (C.set i 0)).2 + 1) := by
    show (if isOld e (C.getD i 0) = true then _ else _) = _
    rw [hvD, if_pos ho]
   rw [f4.2.2.2.1] at k6 k7
   refine ⟨3 + kg + K, g2, L2, F2, by omega, ?_, k3, k4, k5, by rw [hi, eN, k6, f4.2.2.2.2]; show _ = F.r 3 + (_ + 1); omega, by rw [hi, eN, show m + (k + 1) = m + 1 + k by omega]; exact k7, ?_⟩
   ·have S1 : Steps (fun n g g2 => DoesTo 15 σ p t c tp n l g g2) t 0 n (2 + (kg + 1)) (g.top t [] F) ((G1.set l (18 + i) 0).top t [] F4) := by
     have S0 : Steps (fun n g g2 => DoesTo 15 σ p t c tp n l g g2) t 0 n 2 (g.top t [] F) (gs.top t [F3] ⟨2, 0, fun i => [cutN v 0 8].getD i 0⟩) := .cons D1 one_len.1 one_len.2 (.cons D2 one_len.1 one_len.2 rfl)
     refine S0.trans (SG.trans ?_)
     refine .cons D3 (by rw [t1]; simp) (by rw [t1]; simp) rfl
    have := S1.trans (b := K) (by rw [show n + (2 + (kg + 1)) = n + (3 + kg) by omega]; exact k2)
    rw [show 2 + (kg + 1) + K = 3 + kg + K by omega] at this
    exact this
   ·refine Far.trans ?_ k8
    rw [hG1, hgs]
    exact (Far.cell.trans (Far.give x2)).trans Far.cell
  ·have ho' : isOld e v = false := by simpa using ho
   have hko : kindN v ≠ 2 ∨ (kindN v = 2 ∧ oldB (cutN v 32 30) e = false) := by
    by_cases hv0 : v = 0
    ·left; rw [hv0]; decide
    ·right
     refine ⟨(hI.ok v (List.mem_of_getElem? hv) hv0).2, ?_⟩
     unfold isOld at ho'
     simpa [hv0] using ho'
   have D1 := sp_no (σ := σ) (p := p) (n := n) (g := g.top t [] F) (F := F) (fs := []) (by omega) ht hq hl hlc top_thr (by simp) hB' h1 h2 (by omega) (by omega) (by show g.w l (18 + F.r 1) < _; rw [hi, hw]; exact hv64) (by show kindN (g.w l (18 + F.r 1)) ≠ 2 ∨ (kindN (g.w l (18 + F.r 1)) = 2 ∧ oldB (cutN (g.w l (18 + F.r 1)) 32 30) (F.r 0) = false); rw [hi, hw, h4]; exact hko)
   rw [top_top] at D1
   obtain ⟨F4, hF4⟩ : ∃ F4, F4 = (F.reg 2 ((g.top t [] F).w l (18 + F.r 1))).reg 1 (F.r 1 + 1) := ⟨_, rfl⟩
   rw [← hF4] at D1
   have f4 : F4.fn = 23 ∧ F4.pc = 1 ∧ F4.r 0 = e ∧ F4.r 1 = i + 1 ∧ F4.r 3 = F.r 3 := by
    rw [hF4]
    exact ⟨h1, h2, (reg_ne (by decide)).trans ((reg_ne (by decide)).trans h4), (reg_same _ _ _).trans (by rw [hi]), (reg_ne (by decide)).trans (reg_ne (by decide))⟩
   obtain ⟨K, g2, L2, F2, k1, k2, k3, k4, k5, k6, k7, k8⟩ := sw_scan ht hq hl hlc hB' hS' hg' hS60 hB60 he k (n + 1) m g L C F4 hI (by omega) (by omega) f4.1 f4.2.1 (by omega) f4.2.2.1 (by omega)
   have eN : swN e (k + 1) i C = swN e k (i + 1) C := by
    show (if isOld e (C.getD i 0) = true then _ else _) = _
    rw [hvD, if_neg ho]
   rw [f4.2.2.2.1] at k6 k7
   refine ⟨K + 1, g2, L2, F2, by omega, .cons D1 one_len.1 one_len.2 k2, k3, k4, k5, by rw [hi, eN, k6, f4.2.2.2.2], by rw [hi, eN]; exact k7.mono (by omega), k8⟩
/-- Sweep. -/
theorem steps_sweep (ht : (t : Int) < c 1) (hq : tp[t]? = some q) (hl : levelOf c t = (l : Nat)) (hlc : (l : Int) < c 0) (hB' : c 11 = (B : Nat)) (hS' : c 10 = (S : Nat)) (hg' : c 12 = (gens : Nat)) (hS60 : S ≤ 60) (hB60 : B ≤ 1000) (hn : n < 46500) (hm : m < 700000) {L C : List Nat} (hI : LbX S B gens m g l L C had) (he : g.w l 1 < 18446744073709551616) : ∃ (K : Nat) (g2 : GM) (L2 : List Nat), K ≤ 13 * B + 2 ∧ 0 < K ∧ Steps (fun n g g2 => DoesTo 15 σ p t c tp n l g g2) t 0 n K (g.top t [] ⟨23, 0, fun i => ([] : List Nat).getD i 0⟩) (g2.back t [] [(swN (g.w l 1) B 0 C).2]) ∧ LbX S B gens (m + B) g2 l L2 (swN (g.w l 1) B 0 C).1 had ∧ Far t l g g2 := by
 have D0 := sp_0 (σ := σ) (p := p) (n := n) (g := g.top t [] ⟨23, 0, fun i => ([] : List Nat).getD i 0⟩) (fs := []) (by omega) ht hq hl hlc top_thr (by simp) hB' rfl rfl
 rw [top_top] at D0
 obtain ⟨F1, hF1⟩ : ∃ F1, F1 = ((⟨23, 0, fun i => ([] : List Nat).getD i 0⟩ : Fr).reg 0 (g.w l 1)).goto 1 := ⟨_, rfl⟩
 have D0' : DoesTo 15 σ p t c tp n l (g.top t [] ⟨23, 0, fun i => ([] : List Nat).getD i 0⟩) (g.top t [] F1) := by rw [hF1]; exact D0
 have f1 : F1.fn = 23 ∧ F1.pc = 1 ∧ F1.r 0 = g.w l 1 ∧ F1.r 1 = 0 ∧ F1.r 3 = 0 := by rw [hF1]; exact ⟨rfl, rfl, rfl, rfl, rfl⟩
 obtain ⟨K, g2, L2, F2, k1, k2, k3, k4, k5, k6, k7, k8⟩ := sw_scan (σ := σ) (p := p) ht hq hl hlc hB' hS' hg' hS60 hB60 he B (n + 1) m g L C F1 hI (by omega) (by omega) f1.1 f1.2.1 (by omega) f1.2.2.1 (by omega)
 rw [f1.2.2.2.1] at k6 k7
 rw [f1.2.2.2.2, Nat.zero_add] at k6
 have D9 := sp_past (σ := σ) (p := p) (n := n + 1 + K) (g := g2.top t [] F2) (F := F2) (fs := []) (by omega) ht hq hl hlc top_thr (by simp) hB' k3 k4 (by omega) (by omega)
 rw [top_back, k6] at D9
 exact ⟨K + 1 + 1, g2, L2, by omega, by omega, .cons D0' one_len.1 one_len.2 (k2.trans (.cons D9 one_len.1 one_len.2 rfl)), k7, k8⟩
end
end
section
open Go.RowKit
def levT (c : Nat → Int) (t : Nat) : Nat := (levelOf c t).toNat
theorem levT_of {c : Nat → Int} {L B S T : Nat} (hc : ConfMay c) (hn : Nums c L B S) (hT : c 1 = (T : Nat)) {t : Nat} (ht : t < T) : levelOf c (t : Nat) = (levT c t : Nat) ∧ levT c t < L := by
 obtain ⟨_, ⟨a3, a4⟩, _, a5, _⟩ := id hc
 have h8 := a5 t (by omega)
 have hl : levelOf c (t : Nat) = c (2 + t) := by
  unfold levelOf
  rw [if_pos ⟨decide_eq_true hc, by omega, by omega⟩, Int.toNat_natCast]
 have hlev := hn.lev
 unfold levT
 rw [hl]
 omega
theorem levT_out {c : Nat → Int} {T : Nat} (hT : c 1 = (T : Nat)) {t : Int} (ht : ¬ (0 ≤ t ∧ t < T)) : levelOf c t = -1 := by
 unfold levelOf
 exact if_neg fun g => ht ⟨g.2.1, by have := g.2.2; omega⟩
theorem lev_cell {c : Nat → Int} {L B S T : Nat} (hc : ConfMay c) (hn : Nums c L B S) (hT : c 1 = (T : Nat)) {y : Nat} (hy : y < T) : c (2 + y) = (levT c y : Nat) := by
 rw [← (levT_of hc hn hT hy).1]
 unfold levelOf
 rw [if_pos ⟨decide_eq_true hc, by omega, by omega⟩, Int.toNat_natCast]
end
section
open Go.RowKit
section
variable {σ : World} {p t q l n T : Nat} {c : Nat → Int} {tp : List Nat} {g : GM}
theorem atC_pos {L B S : Nat} (hc : ConfMay c) (hn : Nums c L B S) (hT : c 1 = (T : Nat)) (ht : t < T) : 0 < (atC c T (levT c t)).length ∧ (atC c T (levT c t)).length ≤ 8 ∧ ∀ y ∈ atC c T (levT c t), y < T := by
 have hT8 : T ≤ 8 := by have := hc.2.1; omega
 refine ⟨List.length_pos_iff.2 fun e => ?_, ?_, fun y hy => ?_⟩
 ·have hm : t ∈ atC c T (levT c t) := List.mem_filter.2 ⟨List.mem_range.2 ht, by rw [lev_cell hc hn hT ht]; simp⟩
  rw [e] at hm; cases hm
 ·refine Nat.le_trans (List.length_filter_le _ _) ?_
  rw [List.length_range]; exact hT8
 ·exact List.mem_range.1 (List.mem_filter.1 hy).1
/-- Advance looks over threads that aren't pinned. -/
theorem adv_scan (ht : (t : Int) < c 1) (hq : tp[t]? = some q) (hl : levelOf c t = (l : Nat)) (hlc : (l : Int) < c 0) (hT1c : c 1 = (T : Nat)) {N : Nat} (hN : (atC c T l).length = N) (hN8 : N ≤ 8) (hlt : ∀ y ∈ atC c T l, y < 8) (h0 : ∀ o, 10 ≤ o → o < 18 → g.w l o = 0) : ∀ (k n : Nat) (F : Fr), n + k < 80000 → F.fn = 12 → F.pc = 1 → F.r 1 + k + 1 = N → F.r 0 < 4611686018427387904 → ∃ F2, Steps (fun n g g2 => DoesTo 15 σ p t c tp n l g g2) t 0 n (k + 1) (g.top t [] F) (g.top t [] F2) ∧ F2.fn = 12 ∧ F2.pc = 2 ∧ F2.r 0 = F.r 0
 | 0, n, F, hn, h1, h2, h3, h4 => by
  obtain ⟨y, hy⟩ : ∃ y, (atC c T l)[F.r 1]? = some y := ⟨_, List.getElem?_eq_getElem (by omega)⟩
  have hy8 := hlt y (List.mem_of_getElem? hy)
  have hz : g.w l (10 + y) = 0 := h0 _ (by omega) (by omega)
  have D := hand_li (by omega) ht hq hl hlc (top_thr (g := g) (t := t) (fs := []) (F := F)) (by simp) (by omega) (by omega) (by omega) (by omega) (does_last (σ := σ) (p := p) (n := n) (g := g.top t [] F) (fs := []) (by omega) ht hq hl hlc top_thr (by simp) hT1c h1 h2 hy (by omega) h4 (by show g.w l (10 + y) < _; rw [hz]; decide) (by show lagsN (g.w l (10 + y)) (F.r 0) = false; rw [hz]; rfl) (by omega))
  rw [top_top] at D
  exact ⟨(F.reg 1 (F.r 1 + 1)).goto 2, .cons D one_len.1 one_len.2 rfl, h1, rfl, gr_ne (by decide)⟩
 | k + 1, n, F, hn, h1, h2, h3, h4 => by
  obtain ⟨y, hy⟩ : ∃ y, (atC c T l)[F.r 1]? = some y := ⟨_, List.getElem?_eq_getElem (by omega)⟩
  have hy8 := hlt y (List.mem_of_getElem? hy)
  have hz : g.w l (10 + y) = 0 := h0 _ (by omega) (by omega)
  have D := hand_li (by omega) ht hq hl hlc (top_thr (g := g) (t := t) (fs := []) (F := F)) (by simp) (by omega) (by omega) (by omega) (by omega) (does_on (σ := σ) (p := p) (n := n) (g := g.top t [] F) (fs := []) (by omega) ht hq hl hlc top_thr (by simp) hT1c h1 h2 hy (by omega) h4 (by show g.w l (10 + y) < _; rw [hz]; decide) (by show lagsN (g.w l (10 + y)) (F.r 0) = false; rw [hz]; rfl) (by omega))
  rw [top_top] at D
  have e1 : (F.reg 1 (F.r 1 + 1)).r 1 = F.r 1 + 1 := reg_same _ _ _
  have e0 : (F.reg 1 (F.r 1 + 1)).r 0 = F.r 0 := reg_ne (by decide)
  obtain ⟨F2, a, b, d, e⟩ := adv_scan ht hq hl hlc hT1c hN hN8 hlt h0 k (n + 1) (F.reg 1 (F.r 1 + 1)) (by omega) h1 h2 (by rw [e1]; omega) (by rw [e0]; exact h4)
  exact ⟨F2, .cons D one_len.1 one_len.2 a, b, d, by rw [e, e0]⟩
theorem steps_adv {L B S : Nat} (hc : ConfMay c) (hnu : Nums c L B S) (hT : c 1 = (T : Nat)) (htT : t < T) (hl0 : levT c t = l) (ht : (t : Int) < c 1) (hq : tp[t]? = some q) (hl : levelOf c t = (l : Nat)) (hlc : (l : Int) < c 0) (hn : n < 70000) (he : g.w l 1 < 1000000000) (h0 : ∀ o, 10 ≤ o → o < 18 → g.w l o = 0) : ∃ K, 0 < K ∧ K ≤ 10 ∧ Steps (fun n g g2 => DoesTo 15 σ p t c tp n l g g2) t 0 n K (g.top t [] ⟨12, 0, fun i => ([] : List Nat).getD i 0⟩) ((g.set l 1 (g.w l 1 + 1)).back t [] [1]) := by
 obtain ⟨p1, p2, p3⟩ := atC_pos hc hnu hT htT
 rw [hl0] at p1 p2 p3
 have hT8 : T ≤ 8 := by have := hc.2.1; omega
 have D0 := hand_li (by omega) ht hq hl hlc (top_thr (g := g) (t := t) (fs := []) (F := ⟨12, 0, fun i => ([] : List Nat).getD i 0⟩)) (by simp) (by decide) (by decide) (by decide) (by decide) (does_adv0 (σ := σ) (p := p) (n := n) (g := g.top t [] ⟨12, 0, fun i => ([] : List Nat).getD i 0⟩) (fs := []) (by omega) ht hq hl hlc top_thr (by simp) hT rfl rfl)
 rw [top_top] at D0
 obtain ⟨F1, hF1⟩ : ∃ F1, F1 = ((⟨12, 0, fun i => ([] : List Nat).getD i 0⟩ : Fr).reg 0 (g.w l 1)).goto 1 := ⟨_, rfl⟩
 have D0' : DoesTo 15 σ p t c tp n l (g.top t [] ⟨12, 0, fun i => ([] : List Nat).getD i 0⟩) (g.top t [] F1) := by rw [hF1]; exact D0
 have f1 : F1.fn = 12 ∧ F1.pc = 1 ∧ F1.r 0 = g.w l 1 ∧ F1.r 1 = 0 := by rw [hF1]; exact ⟨rfl, rfl, rfl, rfl⟩
 obtain ⟨F2, a, b, d, e⟩ := adv_scan (σ := σ) (p := p) (g := g) ht hq hl hlc hT rfl p2 (fun y hy => Nat.lt_of_lt_of_le (p3 y hy) hT8) h0 ((atC c T l).length - 1) (n + 1) F1 (by omega) f1.1 f1.2.1 (by rw [f1.2.2.2]; omega) (by rw [f1.2.2.1]; omega)
 rw [f1.2.2.1] at e
 have D9 := hand_li (by omega) ht hq hl hlc (top_thr (g := g) (t := t) (fs := []) (F := F2)) (by simp) (by omega) (by omega) (by omega) (by omega) (does_goes (σ := σ) (p := p) (n := n + 1 + ((atC c T l).length - 1 + 1)) (g := g.top t [] F2) (fs := []) (by omega) ht hq hl hlc top_thr (by simp) hT b d (by omega) (by show g.w l 1 = _; rw [e]))
 rw [e, top_set, top_back] at D9
 exact ⟨((atC c T l).length - 1 + 1 + 1) + 1, by omega, by omega, .cons D0' one_len.1 one_len.2 (a.trans (.cons D9 one_len.1 one_len.2 rfl))⟩
end
/-- What always holds between routines. -/
structure LiI (S B gens L T m : Nat) (g : GM) (Lf C had : Nat → List Nat) (ep : Nat → Nat) : Prop where
 lv : ∀ l, l < L → LbX S B gens m g l (Lf l) (C l) (had l)
 ep : ∀ l, l < L → g.w l 1 = ep l ∧ ep l ≤ m + 2
 act : ∀ l, l < L → ∀ o, 10 ≤ o → o < 18 → g.w l o = 0
 idle : ∀ t, t < T → g.thr t = []
section
variable {S B gens L T m m' l t : Nat} {g g2 : GM} {Lf C had : Nat → List Nat} {ep : Nat → Nat}
theorem LiI.mono (h : LiI S B gens L T m g Lf C had ep) (hm : m ≤ m') : LiI S B gens L T m' g Lf C had ep := ⟨fun l hl => (h.lv l hl).mono hm, fun l hl => ⟨(h.ep l hl).1, by have := (h.ep l hl).2; omega⟩, h.act, h.idle⟩
/-- A routine at one level. -/
theorem LiI.step (h : LiI S B gens L T m g Lf C had ep) (hl : l < L) {L2 C2 had2 : List Nat} (hX : LbX S B gens m' g2 l L2 C2 had2) (hF : Far t l g g2) (ht : g2.thr t = []) (hm : m ≤ m') : LiI S B gens L T m' g2 (put1 Lf l L2) (put1 C l C2) (put1 had l had2) ep := by
 refine ⟨fun l' hl' => ?_, fun l' hl' => ⟨(hF.w l' 1 (.inr (by omega))).trans (h.ep l' hl').1, by have := (h.ep l' hl').2; omega⟩, fun l' hl' o o1 o2 => (hF.w l' o (.inr (by omega))).trans (h.act l' hl' o o1 o2), fun u hu => ?_⟩
 ·by_cases e : l' = l
  ·subst e; rw [put1_same, put1_same, put1_same]; exact hX
  ·rw [put1_ne e, put1_ne e, put1_ne e]
   exact ((h.lv l' hl').congr (fun o _ => hF.w l' o (.inl e)) fun i => hF.held l' i e).mono hm
 ·by_cases e : u = t
  ·subst e; exact ht
  ·rw [hF.thr u e]; exact h.idle u hu
theorem LiI.first (hS : 2 ≤ S) (hg : 1 ≤ gens) : LiI S B gens L T 0 (gm0 B S) (fun _ => slotsFrom 2 (S - 1)) (fun _ => List.replicate B 0) (fun _ => []) (fun _ => 2) := by
 refine ⟨fun l _ => LbX.first hS hg l, fun l _ => ⟨?_, Nat.le_refl _⟩, fun l _ o o1 o2 => ?_, fun _ _ => rfl⟩
 ·show (w0 B S S 1).toNat = 2
  unfold w0
  rfl
 ·show (w0 B S S o).toNat = 0
  unfold w0
  rw [if_neg (by omega), if_neg (by omega), if_neg (by omega), if_neg (by omega)]; rfl
end
section
variable {σ w : World} {K M : Mm} {lab : Nat → Nat} {p t q n L B S T m gens most : Nat} {s : MachS} {c : Nat → Int} {tp : List Nat} {g : GM} {Lf C had : Nat → List Nat} {ep : Nat → Nat}
/-- Take. -/
theorem li_take (h : Has σ M w) (hM : Mach M lab p s) (hB : Base K M lab) (hA : AbsM c tp n s g) (hc : ConfMay c) (hn : Nums c L B S) (hT : c 1 = (T : Nat)) (hg : c 12 = (gens : Nat)) (hn8 : n < 45000) (hm : m < 600000) (ht : t < T) (hq : tp[t]? = some q) (I : LiI S B gens L T m g Lf C had ep) (hmo : most < 1000) (h4 : 4 ≤ most) :
  Calls Tryz.prog 14 #[.pointer (some ⟨p, 0, none⟩), .int .i64 (t : Nat), (.func (.func 15) #[] #[]), .int .i64 (most : Nat), .int .i64 (1 : Nat), .slice none 0 0] w fun r w' => ∃ (k : Nat) (g2 : GM), r = .returned (.int .i64 (k : Nat)) ∧ 0 < k ∧ k ≤ most ∧ ∃ M' lab' s', Has σ M' w' ∧ Mach M' lab' p s' ∧ Base K M' lab' ∧ AbsM c tp (n + k) s' g2 ∧ ((Lf (levT c t) = [] ∧ g2.told t 0 = 0 ∧ LiI S B gens L T (m + 1) g2 Lf C had ep) ∨ (∃ x r, Lf (levT c t) = x :: r ∧ 1 ≤ x ∧ x ≤ S ∧ g2.told t 0 = x ∧ g2.told t 1 ≤ m ∧ LiI S B gens L T (m + 1) g2 (put1 Lf (levT c t) r) C (put1 had (levT c t) (had (levT c t) ++ [x])) ep)) := by
 obtain ⟨elv, ll⟩ := levT_of hc hn hT ht
 have ht1 : (t : Int) < c 1 := by rw [hT]; omega
 have hlc : (levT c t : Int) < c 0 := by rw [hn.lev]; omega
 have hs60 := hn.s0.2
 have hb60 : B ≤ 60 := by have h1 := confMay_lim hc; have h2 := hn.lim; omega
 have hi := I.idle t ht
 have hX := I.lv (levT c t) ll
 have hE := I.ep (levT c t) ll
 have IR := hX.lv.rest
 cases hL : Lf (levT c t) with
 | nil =>
  have S1 := steps_take_no (D := fun n g g2 => DoesTo 15 σ p t c tp n (levT c t) g g2) (p := p) (d := 0) (n := n) (g := g.top t [] ⟨1, 0, fun i => ([] : List Nat).getD i 0⟩) (fs := []) (lhand ht1 hq elv hlc) (by omega) ht1 hq elv hlc top_thr (by simp) (Nat.zero_le _) hn.lim hn.slo hs60 (by omega) (IR.congr rfl (fun _ _ _ => rfl) (fun _ _ _ => rfl) fun _ _ => rfl) rfl rfl (by show 0 < _; decide) hL
  rw [top_back] at S1
  refine (S1.alone h hM hB hA (by omega) ht1 hq elv hi (us := []) (rv := .slice none 0 0) (Rd.nil _ _ _) (by simp) back_thr' (by decide) (by omega) hmo (by kernel_rfl)).mono fun r w' ⟨hr, M', lab', s', a1, a2, a3, a4⟩ => ⟨2, _, hr, by decide, by omega, M', lab', s', a1, a2, a3, a4, .inl ⟨rfl, ?_, ?_⟩⟩
  ·show put1 g.told t _ t 0 = 0
   rw [put1_same]; rfl
  ·have := I.step (t := t) ll (g2 := g.back t [] [0, 0]) (hX.congr (fun _ _ => rfl) fun _ => rfl) Far.back back_thr' (Nat.le_refl m)
   rw [put1_self, put1_self, put1_self] at this
   exact this.mono (by omega)
 | cons x r =>
  have hX' := hX
  rw [hL] at hX'
  obtain ⟨x1, x2, _⟩ := hX'.lv.rest.rng x List.mem_cons_self
  have S1 := steps_take (D := fun n g g2 => DoesTo 15 σ p t c tp n (levT c t) g g2) (p := p) (d := 0) (n := n) (g := g.top t [] ⟨1, 0, fun i => ([] : List Nat).getD i 0⟩) (fs := []) (lhand ht1 hq elv hlc) (by omega) ht1 hq elv hlc top_thr (by simp) (Nat.zero_le _) hn.lim hn.slo hs60 (by omega) (IR.congr rfl (fun _ _ _ => rfl) (fun _ _ _ => rfl) fun _ _ => rfl) rfl rfl (by show 0 < _; decide) hL
  have et : takeG B S (g.top t [] ⟨1, 0, fun i => ([] : List Nat).getD i 0⟩) t (levT c t) [] x = takeG B S g t (levT c t) [] x := by
   unfold takeG
   have e : ∀ o, (g.top t [] ⟨1, 0, fun i => ([] : List Nat).getD i 0⟩).w (levT c t) o = g.w (levT c t) o := fun _ => rfl
   rw [e, e, e, top_set, top_hold, top_back]
  rw [et] at S1
  refine (S1.alone h hM hB hA (by omega) ht1 hq elv hi (us := []) (rv := .slice none 0 0) (Rd.nil _ _ _) (by simp) back_thr' (by decide) (by omega) hmo (by kernel_rfl)).mono fun r' w' ⟨hr, M', lab', s', a1, a2, a3, a4⟩ => ⟨4, _, hr, by decide, by omega, M', lab', s', a1, a2, a3, a4, .inr ⟨x, r, rfl, x1, x2, ?_, ?_, ?_⟩⟩
  ·show put1 g.told t _ t 0 = x
   rw [put1_same]; rfl
  ·show put1 g.told t _ t 1 ≤ m
   rw [put1_same]
   exact (hX'.lv.rest.hd x x1 x2).2
  ·have := I.step (t := t) ll (hX'.take (t := t) (fs := []) (by omega) hs60) Far.take back_thr' (Nat.le_succ m)
   rw [put1_self C] at this
   exact this
/-- Reserve. -/
theorem li_rsv (h : Has σ M w) (hM : Mach M lab p s) (hB : Base K M lab) (hA : AbsM c tp n s g) (hc : ConfMay c) (hn : Nums c L B S) (hT : c 1 = (T : Nat)) (hg : c 12 = (gens : Nat)) (hn8 : n < 45000) (hm : m < 600000) (ht : t < T) (hq : tp[t]? = some q) (I : LiI S B gens L T m g Lf C had ep) (hmo : most < 1000) (h4 : 2 * B + 1 ≤ most) (h3 : 2 ≤ most) :
  Calls Tryz.prog 14 #[.pointer (some ⟨p, 0, none⟩), .int .i64 (t : Nat), (.func (.func 15) #[] #[]), .int .i64 (most : Nat), .int .i64 (20 : Nat), .slice none 0 0] w fun r w' => ∃ (k : Nat) (g2 : GM), r = .returned (.int .i64 (k : Nat)) ∧ 0 < k ∧ k ≤ most ∧ ∃ M' lab' s', Has σ M' w' ∧ Mach M' lab' p s' ∧ Base K M' lab' ∧ AbsM c tp (n + k) s' g2 ∧ (((∀ i, i < B → (C (levT c t)).getD i 0 ≠ 0) ∧ g2.told t 0 = 0 ∧ LiI S B gens L T m g2 Lf C had ep) ∨ (∃ j, j < B ∧ (∀ i, i < j → (C (levT c t)).getD i 0 ≠ 0) ∧ (C (levT c t)).getD j 0 = 0 ∧ g2 = (g.set (levT c t) (18 + j) (mkHold t)).back t [] [1, j])) := by
 obtain ⟨elv, ll⟩ := levT_of hc hn hT ht
 have ht1 : (t : Int) < c 1 := by rw [hT]; omega
 have hlc : (levT c t : Int) < c 0 := by rw [hn.lev]; omega
 have hs60 := hn.s0.2
 have hb60 : B ≤ 60 := by have h1 := confMay_lim hc; have h2 := hn.lim; omega
 have hi := I.idle t ht
 have hX := I.lv (levT c t) ll
 have hE := I.ep (levT c t) ll
 by_cases hf : ∃ j, j < B ∧ (∀ i, i < j → (C (levT c t)).getD i 0 ≠ 0) ∧ (C (levT c t)).getD j 0 = 0
 ·obtain ⟨j, j1, j2, j3⟩ := hf
  have S1 := steps_rsv (σ := σ) (p := p) (n := n) (g := g) ht1 hq elv hlc hn.lim (by omega) (by omega) j1 (fun i hi => by rw [hX.w i (by omega)]; exact j2 i hi) (by rw [hX.w j j1]; exact j3)
  refine (S1.alone h hM hB hA (by omega) ht1 hq elv hi (us := []) (rv := .slice none 0 0) (Rd.nil _ _ _) (by simp) back_thr' (by omega) (by omega) hmo (by kernel_rfl)).mono fun r w' ⟨hr, M', lab', s', a1, a2, a3, a4⟩ => ⟨j + 2, _, hr, by omega, by omega, M', lab', s', a1, a2, a3, a4, .inr ⟨j, j1, j2, j3, rfl⟩⟩
 ·have hall : ∀ i, i < B → (C (levT c t)).getD i 0 ≠ 0 := by
   intro i
   induction i using Nat.strongRecOn with
   | ind i ih => exact fun hi e => hf ⟨i, hi, fun k hk => ih k hk (by omega), e⟩
  have S1 := steps_rsv_no (σ := σ) (p := p) (n := n) (g := g) ht1 hq elv hlc hn.lim (by omega) (by omega) fun i hi => by rw [hX.w i hi]; exact hall i hi
  refine (S1.alone h hM hB hA (by omega) ht1 hq elv hi (us := []) (rv := .slice none 0 0) (Rd.nil _ _ _) (by simp) back_thr' (by omega) (by omega) hmo (by kernel_rfl)).mono fun r w' ⟨hr, M', lab', s', a1, a2, a3, a4⟩ => ⟨B + 1, _, hr, by omega, by omega, M', lab', s', a1, a2, a3, a4, .inl ⟨hall, ?_, ?_⟩⟩
  ·show put1 g.told t _ t 0 = 0
   rw [put1_same]; rfl
  ·have := I.step (t := t) ll (g2 := g.back t [] [0]) (hX.congr (fun _ _ => rfl) fun _ => rfl) Far.back back_thr' (Nat.le_refl m)
   rw [put1_self, put1_self, put1_self] at this
   exact this
/-- Fill of the Cell that was reserved. -/
theorem li_fill (h : Has σ M w) (hM : Mach M lab p s) (hB : Base K M lab) {j z sl gn : Nat} {us : List Nat} (hA : AbsM c tp n s ((g.set (levT c t) (18 + j) z).back t [] us)) (hc : ConfMay c) (hn : Nums c L B S) (hT : c 1 = (T : Nat)) (hg : c 12 = (gens : Nat)) (hn8 : n < 45000) (hm : m < 600000) (ht : t < T) (hq : tp[t]? = some q) (I : LiI S B gens L T m g Lf C had ep) (hmo : most < 1000) (h4 : 2 ≤ most) (hj : (C (levT c t))[j]? = some 0) (hsl : sl < 256) (hgn : gn < 9223372036854775808) {had2 : List Nat} (hp : (had (levT c t)).Perm (sl :: had2)) {rv : Value} (hr : Rd M 1 rv 3 (u64s ([j, sl, gn].map fun u : Nat => (u : Int)))) :
  Calls Tryz.prog 14 #[.pointer (some ⟨p, 0, none⟩), .int .i64 (t : Nat), (.func (.func 15) #[] #[]), .int .i64 (most : Nat), .int .i64 (22 : Nat), rv] w fun r w' => ∃ (k : Nat) (g2 : GM), r = .returned (.int .i64 (k : Nat)) ∧ 0 < k ∧ k ≤ most ∧ ∃ M' lab' s', Has σ M' w' ∧ Mach M' lab' p s' ∧ Base K M' lab' ∧ AbsM c tp (n + k) s' g2 ∧ LiI S B gens L T m g2 Lf (put1 C (levT c t) ((C (levT c t)).set j (mkCell sl gn (ep (levT c t))))) (put1 had (levT c t) had2) ep := by
 obtain ⟨elv, ll⟩ := levT_of hc hn hT ht
 have ht1 : (t : Int) < c 1 := by rw [hT]; omega
 have hlc : (levT c t : Int) < c 0 := by rw [hn.lev]; omega
 have hs60 := hn.s0.2
 have hb60 : B ≤ 60 := by have h1 := confMay_lim hc; have h2 := hn.lim; omega
 have hi := I.idle t ht
 have hX := I.lv (levT c t) ll
 have hE := I.ep (levT c t) ll
 have hj1 := (List.getElem?_eq_some_iff.1 hj).1
 have hjB : j < B := by rw [← hX.len]; exact hj1
 have e1 : ((g.set (levT c t) (18 + j) z).back t [] us).w (levT c t) 1 = ep (levT c t) := by
  show (g.set (levT c t) (18 + j) z).w _ 1 = _
  rw [set_w, if_neg fun hh => by have := hh.2; omega]; exact hE.1
 have S1 := steps_fill (σ := σ) (p := p) (n := n) (g := (g.set (levT c t) (18 + j) z).back t [] us) ht1 hq elv hlc hn.lim (by omega) hjB (by omega) (s := sl) (by omega) hgn (by rw [e1]; omega)
 rw [e1] at S1
 refine (S1.alone h hM hB hA (by omega) ht1 hq elv back_thr' (us := [j, sl, gn]) hr (by simp) back_thr' (by decide) (by omega) hmo (by kernel_rfl)).mono fun r w' ⟨hr, M', lab', s', a1, a2, a3, a4⟩ => ⟨2, _, hr, by decide, by omega, M', lab', s', a1, a2, a3, a4, ?_⟩
 have e2 : ∀ o, (((g.set (levT c t) (18 + j) z).back t [] us).set (levT c t) (18 + j) (mkCell sl gn (ep (levT c t)))).w (levT c t) o = (g.set (levT c t) (18 + j) (mkCell sl gn (ep (levT c t)))).w (levT c t) o := fun o => by
  rw [set_w, set_w]
  by_cases e : o = 18 + j
  ·rw [if_pos ⟨rfl, e⟩, if_pos ⟨rfl, e⟩]
  ·rw [if_neg fun hh => e hh.2, if_neg fun hh => e hh.2]
   show (g.set (levT c t) (18 + j) z).w _ o = _
   rw [set_w, if_neg fun hh => e hh.2]
 have hX2 := hX.fill (i := j) (v := mkCell sl gn (ep (levT c t))) (had2 := had2) (by rw [cell_slot hsl]; exact hp) hj (cell_ne _ _ _) (cell_lt _ _ _) (cell_kind _ _ _)
 have := I.step (t := t) ll (g2 := (((g.set (levT c t) (18 + j) z).back t [] us).set (levT c t) (18 + j) (mkCell sl gn (ep (levT c t)))).back t [] []) (hX2.congr (fun o _ => e2 o) fun _ => rfl) (((Far.cell.trans Far.back).trans Far.cell).trans Far.back) back_thr' (Nat.le_refl m)
 rw [put1_self Lf] at this
 exact this
/-- Release of it. -/
theorem li_rel (h : Has σ M w) (hM : Mach M lab p s) (hB : Base K M lab) {j z : Nat} {us : List Nat} (hA : AbsM c tp n s ((g.set (levT c t) (18 + j) z).back t [] us)) (hc : ConfMay c) (hn : Nums c L B S) (hT : c 1 = (T : Nat)) (hg : c 12 = (gens : Nat)) (hn8 : n < 45000) (hm : m < 600000) (ht : t < T) (hq : tp[t]? = some q) (I : LiI S B gens L T m g Lf C had ep) (hmo : most < 1000) (h4 : 1 ≤ most) (hj : (C (levT c t)).getD j 0 = 0) (hjB : j < B) {rv : Value} (hr : Rd M 1 rv 1 (u64s ([j].map fun u : Nat => (u : Int)))) :
  Calls Tryz.prog 14 #[.pointer (some ⟨p, 0, none⟩), .int .i64 (t : Nat), (.func (.func 15) #[] #[]), .int .i64 (most : Nat), .int .i64 (21 : Nat), rv] w fun r w' => ∃ (k : Nat) (g2 : GM), r = .returned (.int .i64 (k : Nat)) ∧ 0 < k ∧ k ≤ most ∧ ∃ M' lab' s', Has σ M' w' ∧ Mach M' lab' p s' ∧ Base K M' lab' ∧ AbsM c tp (n + k) s' g2 ∧ LiI S B gens L T m g2 Lf C had ep := by
 obtain ⟨elv, ll⟩ := levT_of hc hn hT ht
 have ht1 : (t : Int) < c 1 := by rw [hT]; omega
 have hlc : (levT c t : Int) < c 0 := by rw [hn.lev]; omega
 have hs60 := hn.s0.2
 have hb60 : B ≤ 60 := by have h1 := confMay_lim hc; have h2 := hn.lim; omega
 have hi := I.idle t ht
 have hX := I.lv (levT c t) ll
 have hE := I.ep (levT c t) ll
 have S1 := steps_rel (σ := σ) (p := p) (n := n) (g := (g.set (levT c t) (18 + j) z).back t [] us) ht1 hq elv hlc hn.lim (by omega) hjB (by omega)
 refine (S1.alone h hM hB hA (by omega) ht1 hq elv back_thr' (us := [j]) hr (by simp) back_thr' (by decide) (by omega) hmo (by kernel_rfl)).mono fun r w' ⟨hr, M', lab', s', a1, a2, a3, a4⟩ => ⟨1, _, hr, by decide, by omega, M', lab', s', a1, a2, a3, a4, ?_⟩
 have e2 : ∀ o, (((g.set (levT c t) (18 + j) z).back t [] us).set (levT c t) (18 + j) 0).w (levT c t) o = (g.set (levT c t) (18 + j) 0).w (levT c t) o := fun o => by
  rw [set_w, set_w]
  by_cases e : o = 18 + j
  ·rw [if_pos ⟨rfl, e⟩, if_pos ⟨rfl, e⟩]
  ·rw [if_neg fun hh => e hh.2, if_neg fun hh => e hh.2]
   show (g.set (levT c t) (18 + j) z).w _ o = _
   rw [set_w, if_neg fun hh => e hh.2]
 have e3 : ∀ o, (g.set (levT c t) (18 + j) 0).w (levT c t) o = g.w (levT c t) o := fun o => by
  rw [set_w]
  by_cases e : o = 18 + j
  ·rw [if_pos ⟨rfl, e⟩, e, hX.w j hjB, hj]
  ·rw [if_neg fun hh => e hh.2]
 have := I.step (t := t) ll (g2 := (((g.set (levT c t) (18 + j) z).back t [] us).set (levT c t) (18 + j) 0).back t [] []) (hX.congr (fun o _ => (e2 o).trans (e3 o)) fun _ => rfl) (((Far.cell.trans Far.back).trans Far.cell).trans Far.back) back_thr' (Nat.le_refl m)
 rw [put1_self, put1_self, put1_self] at this
 exact this
/-- Sweep. -/
theorem li_sweep (h : Has σ M w) (hM : Mach M lab p s) (hB : Base K M lab) (hA : AbsM c tp n s g) (hc : ConfMay c) (hn : Nums c L B S) (hT : c 1 = (T : Nat)) (hg : c 12 = (gens : Nat)) (hn8 : n < 45000) (hm : m < 600000) (ht : t < T) (hq : tp[t]? = some q) (I : LiI S B gens L T m g Lf C had ep) (hmo : most < 1000) (h4 : 13 * B + 2 ≤ most) :
  Calls Tryz.prog 14 #[.pointer (some ⟨p, 0, none⟩), .int .i64 (t : Nat), (.func (.func 15) #[] #[]), .int .i64 (most : Nat), .int .i64 (23 : Nat), .slice none 0 0] w fun r w' => ∃ (k : Nat) (g2 : GM), r = .returned (.int .i64 (k : Nat)) ∧ 0 < k ∧ k ≤ most ∧ ∃ M' lab' s', Has σ M' w' ∧ Mach M' lab' p s' ∧ Base K M' lab' ∧ AbsM c tp (n + k) s' g2 ∧ g2.told t 0 = (swN (ep (levT c t)) B 0 (C (levT c t))).2 ∧ ∃ L2, LiI S B gens L T (m + B) g2 (put1 Lf (levT c t) L2) (put1 C (levT c t) (swN (ep (levT c t)) B 0 (C (levT c t))).1) had ep := by
 obtain ⟨elv, ll⟩ := levT_of hc hn hT ht
 have ht1 : (t : Int) < c 1 := by rw [hT]; omega
 have hlc : (levT c t : Int) < c 0 := by rw [hn.lev]; omega
 have hs60 := hn.s0.2
 have hb60 : B ≤ 60 := by have h1 := confMay_lim hc; have h2 := hn.lim; omega
 have hi := I.idle t ht
 have hX := I.lv (levT c t) ll
 have hE := I.ep (levT c t) ll
 obtain ⟨k, g2, L2, k1, k0, S1, hX2, hF⟩ := steps_sweep (σ := σ) (p := p) (n := n) ht1 hq elv hlc hn.lim hn.slo hg hs60 (by omega) (by omega) (by omega) hX (by rw [hE.1]; omega)
 rw [hE.1] at S1 hX2
 refine (S1.alone h hM hB hA (by omega) ht1 hq elv hi (us := []) (rv := .slice none 0 0) (Rd.nil _ _ _) (by simp) back_thr' k0 (by omega) hmo (by kernel_rfl)).mono fun r w' ⟨hr, M', lab', s', a1, a2, a3, a4⟩ => ⟨k, _, hr, k0, by omega, M', lab', s', a1, a2, a3, a4, ?_, L2, ?_⟩
 ·show put1 g2.told t _ t 0 = _
  rw [put1_same]; rfl
 ·have := I.step (t := t) ll (hX2.congr (g2 := g2.back t [] [(swN (ep (levT c t)) B 0 (C (levT c t))).2]) (fun _ _ => rfl) fun _ => rfl) (hF.trans Far.back) back_thr' (by omega)
  rw [put1_self had] at this
  exact this
/-- Advance. -/
theorem li_adv (h : Has σ M w) (hM : Mach M lab p s) (hB : Base K M lab) (hA : AbsM c tp n s g) (hc : ConfMay c) (hn : Nums c L B S) (hT : c 1 = (T : Nat)) (hg : c 12 = (gens : Nat)) (hn8 : n < 45000) (hm : m < 600000) (ht : t < T) (hq : tp[t]? = some q) (I : LiI S B gens L T m g Lf C had ep) (hmo : most < 1000) (h4 : 10 ≤ most) :
  Calls Tryz.prog 14 #[.pointer (some ⟨p, 0, none⟩), .int .i64 (t : Nat), (.func (.func 15) #[] #[]), .int .i64 (most : Nat), .int .i64 (12 : Nat), .slice none 0 0] w fun r w' => ∃ (k : Nat) (g2 : GM), r = .returned (.int .i64 (k : Nat)) ∧ 0 < k ∧ k ≤ most ∧ ∃ M' lab' s', Has σ M' w' ∧ Mach M' lab' p s' ∧ Base K M' lab' ∧ AbsM c tp (n + k) s' g2 ∧ LiI S B gens L T (m + 1) g2 Lf C had (put1 ep (levT c t) (ep (levT c t) + 1)) := by
 obtain ⟨elv, ll⟩ := levT_of hc hn hT ht
 have ht1 : (t : Int) < c 1 := by rw [hT]; omega
 have hlc : (levT c t : Int) < c 0 := by rw [hn.lev]; omega
 have hs60 := hn.s0.2
 have hb60 : B ≤ 60 := by have h1 := confMay_lim hc; have h2 := hn.lim; omega
 have hi := I.idle t ht
 have hX := I.lv (levT c t) ll
 have hE := I.ep (levT c t) ll
 obtain ⟨k, k0, k1, S1⟩ := steps_adv (σ := σ) (p := p) (n := n) (g := g) hc hn hT ht rfl ht1 hq elv hlc (by omega) (by rw [hE.1]; omega) (I.act _ ll)
 rw [hE.1] at S1
 refine (S1.alone h hM hB hA (by omega) ht1 hq elv hi (us := []) (rv := .slice none 0 0) (Rd.nil _ _ _) (by simp) back_thr' k0 (by omega) hmo (by kernel_rfl)).mono fun r w' ⟨hr, M', lab', s', a1, a2, a3, a4⟩ => ⟨k, _, hr, k0, by omega, M', lab', s', a1, a2, a3, a4, fun l hl => ?_, fun l hl => ?_, fun l hl o o1 o2 => ?_, fun u hu => ?_⟩
 ·refine ((I.lv l hl).congr (g2 := (g.set (levT c t) 1 (ep (levT c t) + 1)).back t [] [1]) (fun o ho => ?_) fun _ => rfl).mono (Nat.le_succ m)
  show (g.set (levT c t) 1 _).w l o = _
  rw [set_w, if_neg fun hh => by have := hh.2; omega]
 ·show (g.set (levT c t) 1 _).w l 1 = _ ∧ _
  rw [set_w]
  by_cases e : l = levT c t
  ·subst e; rw [if_pos ⟨rfl, rfl⟩, put1_same]; exact ⟨rfl, by omega⟩
  ·rw [if_neg fun hh => e hh.1, put1_ne e]; exact ⟨(I.ep l hl).1, by have := (I.ep l hl).2; omega⟩
 ·show (g.set (levT c t) 1 _).w l o = 0
  rw [set_w, if_neg fun hh => by have := hh.2; omega]; exact I.act l hl o o1 o2
 ·by_cases e : u = t
  ·subst e; exact back_thr'
  ·exact (put1_ne e).trans (I.idle u hu)
end
end
end Go.Proofs.YtjeeldacnllipaaGreat
