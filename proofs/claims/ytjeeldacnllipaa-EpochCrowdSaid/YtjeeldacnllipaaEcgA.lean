/- Walks of layer 23 (epoch): Active, Lags; of layer 4 (conf): the threads of a level. -/
import Derived.Test.YtjeeldacnllipaaBase
import Derived.Test.YtjeeldacnllipaaWalk
import Derived.Test.YtjeeldacnllipaaField
import Derived.Test.YtjeeldacnllipaaConfLevel
import Derived.Test.YtjeeldacnllipaaWords
import Derived.Test.YtjeeldacnllipaaMachS
namespace Go.Proofs.Ytjeeldacnllipaa
section
open Go.RowKit
/-- Ints, as a slice's cells. -/
def natv (l : List Nat) : List Value := l.map fun n : Nat => Value.int .i64 n
theorem natv_snoc' (l : List Nat) (x : Nat) : natv (l ++ [x]) = natv l ++ [.int .i64 (x : Nat)] := by simp [natv]
theorem natv_len' (l : List Nat) : (natv l).length = l.length := by simp [natv]
def put1 {α : Type} (f : Nat → α) (k : Nat) (v : α) : Nat → α := fun j => if j = k then v else f j
theorem put1_same {α : Type} (f : Nat → α) (k : Nat) (v : α) : put1 f k v k = v := if_pos rfl
theorem put1_ne {α : Type} {f : Nat → α} {k j : Nat} {v : α} (h : j ≠ k) : put1 f k v j = f j := if_neg h
theorem put1_self {α : Type} (f : Nat → α) (k : Nat) : put1 f k (f k) = f := by funext j; unfold put1; by_cases hj : j = k <;> simp [hj]
theorem put1_put1 {α : Type} (f : Nat → α) (k : Nat) (a b : α) : put1 (put1 f k a) k b = put1 f k b := by funext j; unfold put1; by_cases hj : j = k <;> simp [hj]
end
section
set_option linter.unusedVariables false
set_option linter.unusedSimpArgs false
/-- A frame. -/
structure EpF where
  fn : Nat
  pc : Nat
  r0 : Nat
  r1 : Nat
structure EpG where
  ep : Nat → Nat
  act : Nat → Nat → Nat
  thr : Nat → Option EpF
  t0 : Nat → Nat
/-- A thread's announcement lags. -/
def lagsN (a e : Nat) : Bool := (a % 2 == 1) && (a != 2 * e + 1)
/-- The threads of a level. -/
def atL (T : Nat) (lev : Nat → Nat) (l : Nat) : List Nat := (List.range T).filter fun t => lev t == l
def EpG.go (g : EpG) (t : Nat) (F : EpF) : EpG := { g with thr := put1 g.thr t (some F) }
def EpG.back (g : EpG) (t a : Nat) : EpG := { g with thr := put1 g.thr t none, t0 := put1 g.t0 t a }
def EpG.setA (g : EpG) (l t a : Nat) : EpG := { g with act := put1 g.act l (put1 (g.act l) t a) }
def EpG.setE (g : EpG) (l e : Nat) : EpG := { g with ep := put1 g.ep l e }
def EpG.pin (g : EpG) (t l : Nat) (F : EpF) : EpG :=
  if F.pc = 0 then g.go t { F with r0 := g.ep l, pc := 1 }
  else if F.pc = 1 then (g.setA l t (2 * F.r0 + 1)).go t { F with pc := 2 }
  else g.back t (g.ep l)
def EpG.adv (al : List Nat) (g : EpG) (t l : Nat) (F : EpF) : EpG :=
  if F.pc = 0 then g.go t { F with r0 := g.ep l, pc := 1 }
  else if F.pc = 1 then
    (if lagsN (g.act l (al.getD F.r1 0)) F.r0 then g.back t 0
     else if F.r1 + 1 = al.length then g.go t { F with r1 := F.r1 + 1, pc := 2 } else g.go t { F with r1 := F.r1 + 1 })
  else (if g.ep l = F.r0 then (g.setE l (F.r0 + 1)).back t 1 else g.back t 0)
def EpG.next (al : List Nat) (g : EpG) (t l : Nat) (F : EpF) : EpG :=
  if F.fn = 10 then g.pin t l F else if F.fn = 11 then (g.setA l t 0).back t 0 else g.adv al t l F
/-- What holds of a thread's frame. -/
structure EpT (al : List Nat) (e : Nat) (ab : Nat → Bool × Nat) (is ins : Bool) (F : EpF) : Prop where
  fn : F.fn = 10 ∨ F.fn = 11 ∨ F.fn = 12
  pin : F.fn = 10 → F.pc ≤ 2 ∧ ins = false ∧ (F.pc < 2 → is = false) ∧ (F.pc = 2 → is = true) ∧ (F.pc = 1 → F.r0 ≤ e)
  unpin : F.fn = 11 → F.pc = 0 ∧ ins = true ∧ is = true
  adv : F.fn = 12 → F.pc ≤ 2 ∧ ins = is ∧ (1 ≤ F.pc → F.r0 ≤ e ∧ ∀ i y : Nat, i < F.r1 → al[i]? = some y → (ab y).1 = true → F.r0 ≤ (ab y).2) ∧ (F.pc ≤ 1 → F.r1 < al.length) ∧ (F.pc = 0 → F.r1 = 0) ∧ (F.pc = 2 → F.r1 = al.length)
/-- What always holds of a crowd. -/
structure EpI (T : Nat) (lev : Nat → Nat) (n : Nat) (g : EpG) (ab : Nat → Bool × Nat) (ins : Nat → Bool) : Prop where
  epb : ∀ l, g.ep l ≤ n + 2
  yes : ∀ t, t < T → (ab t).1 = true → (∃ e, g.act (lev t) t = 2 * e + 1 ∧ e ≤ (ab t).2) ∧ (ab t).2 ≤ g.ep (lev t) ∧ g.ep (lev t) ≤ (ab t).2 + 1
  no : ∀ t, t < T → (ab t).1 = false → g.act (lev t) t = 0
  thr : ∀ t, t < T → ∀ F, g.thr t = some F → EpT (atL T lev (lev t)) (g.ep (lev t)) ab (ab t).1 (ins t) F
  idle : ∀ t, t < T → g.thr t = none → ins t = (ab t).1
section
variable {T n t l : Nat} {lev : Nat → Nat} {g : EpG} {ab : Nat → Bool × Nat} {ins : Nat → Bool} {F : EpF}
theorem atL_mem {y : Nat} (h : y ∈ atL T lev l) : y < T ∧ lev y = l := by
  obtain ⟨a, b⟩ := List.mem_filter.1 h
  exact ⟨List.mem_range.1 a, by simpa using b⟩
theorem atL_of {y : Nat} (h : y < T) (e : lev y = l) : ∃ i : Nat, i < (atL T lev l).length ∧ (atL T lev l)[i]? = some y := by
  have hm : y ∈ atL T lev l := List.mem_filter.2 ⟨List.mem_range.2 h, by simpa using e⟩
  obtain ⟨i, hi⟩ := List.mem_iff_getElem?.1 hm
  exact ⟨i, (List.getElem?_eq_some_iff.1 hi).1, hi⟩
theorem atL_pos (h : t < T) : 0 < (atL T lev (lev t)).length := by
  obtain ⟨i, hi, _⟩ := atL_of (lev := lev) h rfl
  omega
theorem atL_len : (atL T lev l).length ≤ T := by
  unfold atL
  exact Nat.le_trans (List.length_filter_le _ _) (by simp)
/-- A thread that is within nothing begins a routine. -/
theorem EpI.call (h : EpI T lev n g ab ins) (ht : t < T) (h0 : g.thr t = none) (fn : Nat) (hf : fn = 10 ∧ ins t = false ∨ fn = 11 ∧ ins t = true ∨ fn = 12) : EpI T lev n (g.go t ⟨fn, 0, 0, 0⟩) ab ins := by
  refine ⟨h.epb, h.yes, h.no, fun u hu F hF => ?_, fun u hu hn => ?_⟩
  · have hF : put1 g.thr t (some ⟨fn, 0, 0, 0⟩) u = some F := hF
    by_cases e : u = t
    · subst e
      rw [put1_same] at hF
      cases hF
      have hi := h.idle u hu h0
      refine ⟨by rcases hf with ⟨a, _⟩ | ⟨a, _⟩ | a <;> simp [a], fun e => ?_, fun e => ?_, fun e => ?_⟩
      · rcases hf with ⟨_, a⟩ | ⟨a, _⟩ | a
        · exact ⟨Nat.zero_le _, a, fun _ => hi.symm.trans a, fun e => (nomatch (show (0 : Nat) = 2 from e)), fun e => (nomatch (show (0 : Nat) = 1 from e))⟩
        · have : fn = 10 := e; omega
        · have : fn = 10 := e; omega
      · rcases hf with ⟨a, _⟩ | ⟨_, a⟩ | a
        · have : fn = 11 := e; omega
        · exact ⟨rfl, a, hi.symm.trans a⟩
        · have : fn = 11 := e; omega
      · exact ⟨Nat.zero_le _, hi, fun e => absurd (show 1 ≤ 0 from e) (by decide), fun _ => atL_pos hu, fun _ => rfl, fun e => (nomatch (show (0 : Nat) = 2 from e))⟩
    · rw [put1_ne e] at hF; exact h.thr u hu F hF
  · have hn : put1 g.thr t (some ⟨fn, 0, 0, 0⟩) u = none := hn
    by_cases e : u = t
    · subst e; rw [put1_same] at hn; cases hn
    · rw [put1_ne e] at hn; exact h.idle u hu hn
/-- A thread's announcement, and the epoch, that the law notes behind a step. -/
def abN (lev : Nat → Nat) (t : Nat) (g g' : EpG) (ab : Nat → Bool × Nat) : Nat → Bool × Nat :=
  if g'.act (lev t) t = g.act (lev t) t then ab else put1 ab t (g'.act (lev t) t != 0, g'.ep (lev t))
def insN (t : Nat) (F : EpF) (g' : EpG) (ins : Nat → Bool) : Nat → Bool :=
  if (g'.thr t).isNone then (if F.fn = 10 then put1 ins t true else if F.fn = 11 then put1 ins t false else ins) else ins
theorem insN_ne {t u : Nat} {F : EpF} {g' : EpG} {ins : Nat → Bool} (hu : u ≠ t) : insN t F g' ins u = ins u := by
  unfold insN
  repeat' split
  all_goals first | rfl | exact put1_ne hu
/-- What a step of a crowd makes, and what the law asks of it. -/
structure EpN (T : Nat) (lev : Nat → Nat) (n t : Nat) (F : EpF) (g g' : EpG) (ab : Nat → Bool × Nat) (ins : Nat → Bool) : Prop where
  inv : EpI T lev (n + 1) g' (abN lev t g g' ab) (insN t F g' ins)
  oth : ∀ u, u ≠ t → g'.thr u = g.thr u
  ep : ∀ l, l ≠ lev t → g'.ep l = g.ep l
  up : g'.ep (lev t) = g.ep (lev t) ∨ g'.ep (lev t) = g.ep (lev t) + 1
  pin : F.fn = 10 → g'.thr t = none → (abN lev t g g' ab t).1 = true ∧ (g'.t0 t = (abN lev t g g' ab t).2 ∨ g'.t0 t = (abN lev t g g' ab t).2 + 1)
  unpin : F.fn = 11 → g'.thr t = none → (abN lev t g g' ab t).1 = false
/-- Another frame, nothing else. -/
theorem EpI.stay (h : EpI T lev n g ab ins) (ht : t < T) (hF : g.thr t = some F) {F2 : EpF} (h2 : EpT (atL T lev (lev t)) (g.ep (lev t)) ab (ab t).1 (ins t) F2) : EpN T lev n t F g (g.go t F2) ab ins := by
  have e1 : abN lev t g (g.go t F2) ab = ab := if_pos rfl
  have e2 : (g.go t F2).thr t = some F2 := put1_same _ _ _
  have e3 : insN t F (g.go t F2) ins = ins := by unfold insN; rw [e2]; rfl
  refine ⟨?_, fun u hu => put1_ne hu, fun _ _ => rfl, .inl rfl, fun _ e => (by rw [e2] at e; cases e), fun _ e => (by rw [e2] at e; cases e)⟩
  rw [e1, e3]
  refine ⟨fun l => Nat.le_trans (h.epb l) (by omega), h.yes, h.no, fun u hu F' hF' => ?_, fun u hu hn => ?_⟩
  · have hF' : put1 g.thr t (some F2) u = some F' := hF'
    by_cases e : u = t
    · subst e; rw [put1_same] at hF'; cases hF'; exact h2
    · rw [put1_ne e] at hF'; exact h.thr u hu F' hF'
  · have hn : put1 g.thr t (some F2) u = none := hn
    by_cases e : u = t
    · subst e; rw [put1_same] at hn; cases hn
    · rw [put1_ne e] at hn; exact h.idle u hu hn
/-- A frame is over, nothing else. -/
theorem EpI.over (h : EpI T lev n g ab ins) (ht : t < T) (hF : g.thr t = some F) (a : Nat) (h1 : F.fn = 10 → ins t = false ∧ (ab t).1 = true ∧ (a = (ab t).2 ∨ a = (ab t).2 + 1)) (h2 : F.fn ≠ 11) (h3 : F.fn = 12 → ins t = (ab t).1) (hfn : F.fn = 10 ∨ F.fn = 12) : EpN T lev n t F g (g.back t a) ab ins := by
  have e1 : abN lev t g (g.back t a) ab = ab := if_pos rfl
  have e2 : (g.back t a).thr t = none := put1_same _ _ _
  have e0 : (g.back t a).t0 t = a := put1_same _ _ _
  refine ⟨?_, fun u hu => put1_ne hu, fun _ _ => rfl, .inl rfl, fun e _ => (by rw [e1, e0]; exact (h1 e).2), fun e _ => absurd e h2⟩
  rw [e1]
  refine ⟨fun l => Nat.le_trans (h.epb l) (by omega), h.yes, h.no, fun u hu F' hF' => ?_, fun u hu hn => ?_⟩
  · have hF' : put1 g.thr t none u = some F' := hF'
    by_cases e : u = t
    · subst e; rw [put1_same] at hF'; cases hF'
    · rw [put1_ne e] at hF'
      rw [insN_ne e]; exact h.thr u hu F' hF'
  · by_cases e : u = t
    · subst e
      unfold insN
      rw [e2]
      simp only [Option.isNone_none, if_true]
      rcases hfn with hf | hf
      · rw [if_pos hf, put1_same]; exact (h1 hf).2.1.symm
      · rw [if_neg (by omega), if_neg (by omega)]; exact h3 hf
    · have hn : put1 g.thr t none u = none := hn
      rw [put1_ne e] at hn
      rw [insN_ne e]; exact h.idle u hu hn
/-- Lags: an announcement that is of an older epoch. -/
theorem lags_no {a e : Nat} (h : lagsN a e = false) {k : Nat} (ha : a = 2 * k + 1) : k = e := by
  subst ha
  unfold lagsN at h
  have : (2 * k + 1) % 2 = 1 := by omega
  rw [this] at h
  simp at h
  omega
theorem EpT.mono {al : List Nat} {e : Nat} {is ins : Bool} {ab ab2 : Nat → Bool × Nat} (h : EpT al e ab is ins F) {e2 : Nat} (he : e ≤ e2) (hab : ∀ i y : Nat, al[i]? = some y → (ab2 y).1 = true → (ab2 y = ab y) ∨ e ≤ (ab2 y).2) : EpT al e2 ab2 is ins F := by
  refine ⟨h.fn, fun f => ?_, h.unpin, fun f => ?_⟩
  · obtain ⟨a, b, c, d, e'⟩ := h.pin f
    exact ⟨a, b, c, d, fun p => Nat.le_trans (e' p) he⟩
  · obtain ⟨a, b, c, d, e', f'⟩ := h.adv f
    refine ⟨a, b, fun p => ⟨Nat.le_trans (c p).1 he, fun i y hi hy hab2 => ?_⟩, d, e', f'⟩
    rcases hab i y hy hab2 with h1 | h1
    · rw [h1] at hab2 ⊢; exact (c p).2 i y hi hy hab2
    · exact Nat.le_trans (c p).1 h1
/-- A thread becomes pinned. -/
theorem EpI.pin1 (h : EpI T lev n g ab ins) (ht : t < T) (hF : g.thr t = some F) (hf : F.fn = 10) (hp : F.pc = 1) : EpN T lev n t F g ((g.setA (lev t) t (2 * F.r0 + 1)).go t { F with pc := 2 }) ab ins := by
  obtain ⟨a1, a2, a3, a4, a5⟩ := (h.thr t ht F hF).pin hf
  have hno := h.no t ht (a3 (by omega))
  have hr0 := a5 hp
  generalize hg : (g.setA (lev t) t (2 * F.r0 + 1)).go t { F with pc := 2 } = g2
  have eact : ∀ u, g2.act (lev t) u = if u = t then 2 * F.r0 + 1 else g.act (lev t) u := fun u => by
    rw [← hg]
    show put1 g.act (lev t) (put1 (g.act (lev t)) t _) (lev t) u = _
    rw [put1_same]; rfl
  have eacl : ∀ l, l ≠ lev t → g2.act l = g.act l := fun l hl => by rw [← hg]; exact put1_ne hl
  have eep : g2.ep = g.ep := by rw [← hg]; rfl
  have ethr : g2.thr = put1 g.thr t (some { F with pc := 2 }) := by rw [← hg]; rfl
  have eab : abN lev t g g2 ab = put1 ab t (true, g.ep (lev t)) := by
    unfold abN
    rw [eact t, if_pos rfl, hno, if_neg (by omega), eep]
    have : (2 * F.r0 + 1 != 0) = true := by simp
    rw [this]
  have ein : insN t F g2 ins = ins := by unfold insN; rw [ethr, put1_same]; rfl
  have eactu : ∀ u, u ≠ t → g2.act (lev u) u = g.act (lev u) u := fun u hu => by
    by_cases e : lev u = lev t
    · rw [e, eact u, if_neg hu]
    · rw [eacl _ e]
  refine ⟨?_, fun u hu => by rw [ethr]; exact put1_ne hu, fun _ _ => by rw [eep], .inl (by rw [eep]), fun _ e => (by rw [ethr, put1_same] at e; cases e), fun _ e => (by rw [ethr, put1_same] at e; cases e)⟩
  rw [eab, ein]
  refine ⟨fun l => by rw [eep]; exact Nat.le_trans (h.epb l) (by omega), fun u hu hy => ?_, fun u hu hy => ?_, fun u hu F' hF' => ?_, fun u hu hn => ?_⟩
  · by_cases e : u = t
    · subst e
      rw [put1_same, eact u, if_pos rfl, eep]
      exact ⟨⟨F.r0, rfl, hr0⟩, Nat.le_refl _, Nat.le_succ _⟩
    · rw [put1_ne e] at hy ⊢
      rw [eactu u e, eep]; exact h.yes u hu hy
  · by_cases e : u = t
    · subst e; rw [put1_same] at hy; cases hy
    · rw [put1_ne e] at hy
      rw [eactu u e]; exact h.no u hu hy
  · rw [ethr] at hF'
    rw [eep]
    have hab : ∀ i y : Nat, (atL T lev (lev u))[i]? = some y → (put1 ab t (true, g.ep (lev t)) y).1 = true → (put1 ab t (true, g.ep (lev t)) y = ab y) ∨ g.ep (lev u) ≤ (put1 ab t (true, g.ep (lev t)) y).2 := fun i y hy _ => by
      by_cases e : y = t
      · subst e
        right
        rw [put1_same, (atL_mem (List.mem_of_getElem? hy)).2]
        exact Nat.le_refl _
      · left; exact put1_ne e
    by_cases e : u = t
    · subst e
      rw [put1_same] at hF'
      cases hF'
      rw [put1_same]
      refine ⟨.inl hf, fun _ => ⟨Nat.le_refl _, a2, fun e => absurd (show 2 < 2 from e) (by decide), fun _ => rfl, fun e => (nomatch (show (2 : Nat) = 1 from e))⟩, fun e => ?_, fun e => ?_⟩
      · have : F.fn = 11 := e; omega
      · have : F.fn = 12 := e; omega
    · rw [put1_ne e] at hF' ⊢
      exact (h.thr u hu F' hF').mono (Nat.le_refl _) hab
  · rw [ethr] at hn
    by_cases e : u = t
    · subst e; rw [put1_same] at hn; cases hn
    · rw [put1_ne e] at hn ⊢; exact h.idle u hu hn
/-- A thread is pinned no more. -/
theorem EpI.unp (h : EpI T lev n g ab ins) (ht : t < T) (hF : g.thr t = some F) (hf : F.fn = 11) : EpN T lev n t F g ((g.setA (lev t) t 0).back t 0) ab ins := by
  obtain ⟨a1, a2, a3⟩ := (h.thr t ht F hF).unpin hf
  obtain ⟨⟨k, hk, _⟩, _, _⟩ := h.yes t ht a3
  generalize hg : (g.setA (lev t) t 0).back t 0 = g2
  have eact : ∀ u, g2.act (lev t) u = if u = t then 0 else g.act (lev t) u := fun u => by
    rw [← hg]
    show put1 g.act (lev t) (put1 (g.act (lev t)) t _) (lev t) u = _
    rw [put1_same]; rfl
  have eacl : ∀ l, l ≠ lev t → g2.act l = g.act l := fun l hl => by rw [← hg]; exact put1_ne hl
  have eep : g2.ep = g.ep := by rw [← hg]; rfl
  have ethr : g2.thr = put1 g.thr t none := by rw [← hg]; rfl
  have eab : abN lev t g g2 ab = put1 ab t (false, g.ep (lev t)) := by
    unfold abN
    rw [eact t, if_pos rfl, hk, if_neg (by omega), eep]
    rfl
  have ein : insN t F g2 ins = put1 ins t false := by simp [insN, ethr, put1_same, hf]
  have eactu : ∀ u, u ≠ t → g2.act (lev u) u = g.act (lev u) u := fun u hu => by
    by_cases e : lev u = lev t
    · rw [e, eact u, if_neg hu]
    · rw [eacl _ e]
  refine ⟨?_, fun u hu => by rw [ethr]; exact put1_ne hu, fun _ _ => by rw [eep], .inl (by rw [eep]), fun e _ => absurd e (by omega), fun _ e => (by rw [eab, put1_same])⟩
  rw [eab, ein]
  refine ⟨fun l => by rw [eep]; exact Nat.le_trans (h.epb l) (by omega), fun u hu hy => ?_, fun u hu hy => ?_, fun u hu F' hF' => ?_, fun u hu hn => ?_⟩
  · by_cases e : u = t
    · subst e; rw [put1_same] at hy; cases hy
    · rw [put1_ne e] at hy ⊢
      rw [eactu u e, eep]; exact h.yes u hu hy
  · by_cases e : u = t
    · subst e; rw [eact u, if_pos rfl]
    · rw [put1_ne e] at hy
      rw [eactu u e]; exact h.no u hu hy
  · rw [ethr] at hF'
    rw [eep]
    have hab : ∀ i y : Nat, (atL T lev (lev u))[i]? = some y → (put1 ab t (false, g.ep (lev t)) y).1 = true → (put1 ab t (false, g.ep (lev t)) y = ab y) ∨ g.ep (lev u) ≤ (put1 ab t (false, g.ep (lev t)) y).2 := fun i y hy h1 => by
      by_cases e : y = t
      · subst e; rw [put1_same] at h1; cases h1
      · left; exact put1_ne e
    by_cases e : u = t
    · subst e; rw [put1_same] at hF'; cases hF'
    · rw [put1_ne e] at hF' ⊢
      rw [put1_ne e]
      exact (h.thr u hu F' hF').mono (Nat.le_refl _) hab
  · rw [ethr] at hn
    by_cases e : u = t
    · subst e; rw [put1_same, put1_same]
    · rw [put1_ne e] at hn ⊢; rw [put1_ne e]; exact h.idle u hu hn
/-- The epoch goes on. -/
theorem EpI.goes (h : EpI T lev n g ab ins) (ht : t < T) (hF : g.thr t = some F) (hf : F.fn = 12) (hp : F.pc = 2) (he : g.ep (lev t) = F.r0) : EpN T lev n t F g ((g.setE (lev t) (F.r0 + 1)).back t 1) ab ins := by
  obtain ⟨a1, a2, a3, a4, a5, a6⟩ := (h.thr t ht F hF).adv hf
  obtain ⟨_, a3⟩ := a3 (by omega)
  generalize hg : (g.setE (lev t) (F.r0 + 1)).back t 1 = g2
  have eact : g2.act = g.act := by rw [← hg]; rfl
  have eep : g2.ep (lev t) = g.ep (lev t) + 1 := by rw [← hg, he]; exact put1_same _ _ _
  have eepl : ∀ l, l ≠ lev t → g2.ep l = g.ep l := fun l hl => by rw [← hg]; exact put1_ne hl
  have ethr : g2.thr = put1 g.thr t none := by rw [← hg]; rfl
  have eab : abN lev t g g2 ab = ab := by unfold abN; rw [eact, if_pos rfl]
  have ein : insN t F g2 ins = ins := by simp [insN, ethr, put1_same, hf]
  have eepu : ∀ l, g.ep l ≤ g2.ep l := fun l => by
    by_cases e : l = lev t
    · subst e; omega
    · rw [eepl l e]; exact Nat.le_refl _
  refine ⟨?_, fun u hu => by rw [ethr]; exact put1_ne hu, eepl, .inr eep, fun e _ => absurd e (by omega), fun e _ => absurd e (by omega)⟩
  rw [eab, ein]
  refine ⟨fun l => ?_, fun u hu hy => ?_, fun u hu hy => by rw [eact]; exact h.no u hu hy, fun u hu F' hF' => ?_, fun u hu hn => ?_⟩
  · have := h.epb l
    by_cases e : l = lev t
    · subst e; omega
    · rw [eepl l e]; omega
  · obtain ⟨b1, b2, b3⟩ := h.yes u hu hy
    rw [eact]
    refine ⟨b1, Nat.le_trans b2 (eepu _), ?_⟩
    by_cases e : lev u = lev t
    · obtain ⟨i, hi, hiy⟩ := atL_of (lev := lev) hu e
      have := a3 i u (by rw [a6 hp]; exact hi) hiy hy
      rw [e, eep]; omega
    · rw [eepl _ e]; exact b3
  · rw [ethr] at hF'
    by_cases e : u = t
    · subst e; rw [put1_same] at hF'; cases hF'
    · rw [put1_ne e] at hF'
      exact (h.thr u hu F' hF').mono (eepu _) fun i y _ _ => .inl rfl
  · rw [ethr] at hn
    by_cases e : u = t
    · subst e; exact a2
    · rw [put1_ne e] at hn; exact h.idle u hu hn
/-- Each step of a crowd keeps what holds. -/
theorem ep_next (h : EpI T lev n g ab ins) (ht : t < T) (hF : g.thr t = some F) : EpN T lev n t F g (g.next (atL T lev (lev t)) t (lev t) F) ab ins := by
  have hT := h.thr t ht F hF
  unfold EpG.next
  rcases hT.fn with hf | hf | hf
  · rw [if_pos hf]
    obtain ⟨a1, a2, a3, a4, a5⟩ := hT.pin hf
    unfold EpG.pin
    by_cases p0 : F.pc = 0
    · rw [if_pos p0]
      refine h.stay ht hF ⟨.inl hf, fun _ => ⟨by show 1 ≤ 2; omega, a2, fun _ => a3 (by omega), fun e => (nomatch (show (1 : Nat) = 2 from e)), fun _ => Nat.le_refl _⟩, fun e => ?_, fun e => ?_⟩
      · have : F.fn = 11 := e; omega
      · have : F.fn = 12 := e; omega
    rw [if_neg p0]
    by_cases p1 : F.pc = 1
    · rw [if_pos p1]; exact h.pin1 ht hF hf p1
    rw [if_neg p1]
    have hp2 : F.pc = 2 := by omega
    have his := a4 hp2
    obtain ⟨_, b2, b3⟩ := h.yes t ht his
    exact h.over ht hF _ (fun _ => ⟨a2, his, by omega⟩) (by omega) (fun e => absurd e (by omega)) (.inl hf)
  · rw [if_neg (by omega), if_pos hf]; exact h.unp ht hF hf
  · rw [if_neg (by omega), if_neg (by omega)]
    obtain ⟨a1, a2, a3, a4, a5, a6⟩ := hT.adv hf
    unfold EpG.adv
    by_cases p0 : F.pc = 0
    · rw [if_pos p0]
      refine h.stay ht hF ⟨.inr (.inr hf), fun e => ?_, fun e => ?_, fun _ => ⟨by show 1 ≤ 2; omega, a2, fun _ => ⟨Nat.le_refl _, fun i y hi => ?_⟩, fun _ => a4 (by omega), fun e => (nomatch (show (1 : Nat) = 0 from e)), fun e => (nomatch (show (1 : Nat) = 2 from e))⟩⟩
      · have : F.fn = 10 := e; omega
      · have : F.fn = 11 := e; omega
      · have : i < F.r1 := hi
        rw [a5 p0] at this; omega
    rw [if_neg p0]
    by_cases p1 : F.pc = 1
    · rw [if_pos p1]
      obtain ⟨b1, b2⟩ := a3 (by omega)
      by_cases hl : lagsN (g.act (lev t) ((atL T lev (lev t)).getD F.r1 0)) F.r0 = true
      · rw [if_pos hl]
        exact h.over ht hF 0 (fun e => absurd e (by omega)) (by omega) (fun _ => a2) (.inr hf)
      rw [if_neg hl]
      have hl : lagsN (g.act (lev t) ((atL T lev (lev t)).getD F.r1 0)) F.r0 = false := by simpa using hl
      have hr1 := a4 (by omega)
      have hy : ∀ i y : Nat, i < F.r1 + 1 → (atL T lev (lev t))[i]? = some y → (ab y).1 = true → F.r0 ≤ (ab y).2 := fun i y hi hiy hay => by
        by_cases e : i = F.r1
        · subst e
          obtain ⟨yT, yl⟩ := atL_mem (List.mem_of_getElem? hiy)
          obtain ⟨⟨k, hk, hk2⟩, _, _⟩ := h.yes y yT hay
          rw [yl] at hk
          have : (atL T lev (lev t)).getD F.r1 0 = y := by rw [List.getD_eq_getElem?_getD, hiy]; rfl
          rw [this] at hl
          have := lags_no hl hk
          omega
        · exact b2 i y (by omega) hiy hay
      by_cases hr : F.r1 + 1 = (atL T lev (lev t)).length
      · rw [if_pos hr]
        refine h.stay ht hF ⟨.inr (.inr hf), fun e => ?_, fun e => ?_, fun _ => ⟨Nat.le_refl _, a2, fun _ => ⟨b1, hy⟩, fun e => absurd (show 2 ≤ 1 from e) (by decide), fun e => (nomatch (show (2 : Nat) = 0 from e)), fun _ => hr⟩⟩
        · have : F.fn = 10 := e; omega
        · have : F.fn = 11 := e; omega
      · rw [if_neg hr]
        refine h.stay ht hF ⟨.inr (.inr hf), fun e => ?_, fun e => ?_, fun _ => ⟨a1, a2, fun _ => ⟨b1, hy⟩, fun _ => ?_, fun e => ?_, fun e => ?_⟩⟩
        · have : F.fn = 10 := e; omega
        · have : F.fn = 11 := e; omega
        · show F.r1 + 1 < _; omega
        · have : F.pc = 0 := e; omega
        · have : F.pc = 2 := e; omega
    rw [if_neg p1]
    have hp2 : F.pc = 2 := by omega
    by_cases he : g.ep (lev t) = F.r0
    · rw [if_pos he]; exact h.goes ht hF hf hp2 he
    · rw [if_neg he]
      exact h.over ht hF 0 (fun e => absurd e (by omega)) (by omega) (fun _ => a2) (.inr hf)
/-- How many steps a thread needs at most, alone. -/
def potE (al : List Nat) (F : EpF) : Nat := if F.fn = 10 then 3 - F.pc else if F.fn = 11 then 1 else if F.pc = 0 then al.length + 2 else if F.pc = 1 then al.length - F.r1 + 1 else 1
theorem potE_next (h : EpI T lev n g ab ins) (ht : t < T) (hF : g.thr t = some F) {F2 : EpF} (e : (g.next (atL T lev (lev t)) t (lev t) F).thr t = some F2) : potE (atL T lev (lev t)) F2 + 1 ≤ potE (atL T lev (lev t)) F := by
  have hT := h.thr t ht F hF
  have go : ∀ (g2 : EpG) (F3 : EpF), (g2.go t F3).thr t = some F2 → F3 = F2 := fun g2 F3 e => by
    have : put1 g2.thr t (some F3) t = some F2 := e
    rw [put1_same] at this; cases this; rfl
  have bk : ∀ (g2 : EpG) (a : Nat), (g2.back t a).thr t = some F2 → False := fun g2 a e => by
    have : put1 g2.thr t none t = some F2 := e
    rw [put1_same] at this; cases this
  unfold EpG.next at e
  rcases hT.fn with hf | hf | hf
  · rw [if_pos hf] at e
    unfold EpG.pin at e
    by_cases p0 : F.pc = 0
    · rw [if_pos p0] at e
      rw [← go _ _ e]; unfold potE; simp only [hf, p0, if_true]; omega
    rw [if_neg p0] at e
    by_cases p1 : F.pc = 1
    · rw [if_pos p1] at e
      rw [← go _ _ e]; unfold potE; simp only [hf, p1, if_true]; omega
    rw [if_neg p1] at e
    exact (bk _ _ e).elim
  · rw [if_neg (by omega), if_pos hf] at e; exact (bk _ _ e).elim
  · rw [if_neg (by omega), if_neg (by omega)] at e
    obtain ⟨a1, a2, a3, a4, a5, a6⟩ := hT.adv hf
    have n10 : F.fn ≠ 10 := by omega
    have n11 : F.fn ≠ 11 := by omega
    unfold EpG.adv at e
    by_cases p0 : F.pc = 0
    · rw [if_pos p0] at e
      rw [← go _ _ e]; unfold potE
      simp only [n10, n11, p0, if_false, if_true]
      have := a5 p0
      simp only [this]
      simp
    rw [if_neg p0] at e
    by_cases p1 : F.pc = 1
    · rw [if_pos p1] at e
      split at e
      · exact (bk _ _ e).elim
      · split at e
        · next hr =>
          rw [← go _ _ e]; unfold potE
          simp only [n10, n11, p1, if_false, if_true]
          simp
          omega
        · have := a4 (by omega)
          rw [← go _ _ e]; unfold potE
          simp only [n10, n11, p1, if_false, if_true]
          simp
          omega
    rw [if_neg p1] at e
    split at e
    · exact (bk _ _ e).elim
    · exact (bk _ _ e).elim
theorem potE_pos (h : EpI T lev n g ab ins) (ht : t < T) (hF : g.thr t = some F) : 1 ≤ potE (atL T lev (lev t)) F ∧ potE (atL T lev (lev t)) F ≤ T + 3 := by
  have hT := h.thr t ht F hF
  have hal := atL_len (T := T) (lev := lev) (l := lev t)
  unfold potE
  rcases hT.fn with hf | hf | hf
  · obtain ⟨a1, _⟩ := hT.pin hf
    rw [if_pos hf]; omega
  · rw [if_neg (by omega), if_pos hf]; omega
  · rw [if_neg (by omega), if_neg (by omega)]
    repeat' split
    all_goals omega
end
end
section
open Go.RowKit
set_option linter.unusedVariables false
set_option linter.unusedSimpArgs false
theorem info_int : (Try.prog.info? 3).map (fun i => (i.zero, i.size, i.bytes)) = some (some (.int .i64 0), 1, 8) := by kernel_rfl
theorem Has.box2 {σ w : World} {M : Mm} (h : Has σ M w) (o o' : Obj) : ∃ M', Has σ M' ((w.alloc o).alloc o') ∧ M.le M' ∧ M' w.heap.size = some o ∧ M' (w.heap.size + 1) = some o' ∧ M w.heap.size = none ∧ M (w.heap.size + 1) = none := by
  have ez : (w.alloc o).heap.size = w.heap.size + 1 := by simp
  have h1 := h.alloc o
  have h2 := h1.alloc o'
  have hf := h1.fresh
  rw [ez] at h2 hf
  exact ⟨_, h2, Mm.le_trans (Mm.le_upd' h.fresh _) (Mm.le_upd' hf _), Mm.le_upd' hf _ _ _ (Mm.upd_same _ _ _), Mm.upd_same _ _ _, h.fresh, Mm.none_of (Mm.le_upd' h.fresh o) hf⟩
end
section
open Go.RowKit
set_option linter.unusedVariables false
set_option linter.unusedSimpArgs false
set_option linter.unnecessarySimpa false
theorem twice_one (e : Nat) : (e * 2 ||| 1) = 2 * e + 1 := by
  apply Nat.eq_of_testBit_eq
  intro j
  rw [Nat.testBit_or, show 2 * e + 1 = 2 ^ 1 * e + 1 by omega, Nat.testBit_two_pow_mul_add _ (by decide), show e * 2 = 2 ^ 1 * e by omega, Nat.testBit_two_pow_mul]
  by_cases h : j < 1
  · obtain rfl : j = 0 := by omega
    simp
  · have h1 : Nat.testBit 1 j = false := Nat.testBit_lt_two_pow (Nat.lt_of_lt_of_le (show 1 < 2 ^ 1 by decide) (Nat.pow_le_pow_right (by decide) (by omega)))
    simp [h, h1]
    omega
theorem epActive_any (e : Nat) (he : e < 4611686018427387904) (w : World) : Calls Try.prog 61 #[.int .u64 e] w fun r w' => r = .returned (.int .u64 (2 * e + 1 : Nat)) ∧ w = w' := by
  have hs : IntKind.u64.wrap ((e : Int) * 2) = (e : Int) * 2 := IntWalk.u64_in _ (by omega)
  have B3 : bits .or .u64 ((e : Int) * 2) 1 = ((2 * e + 1 : Nat) : Int) := by
    rw [← twice_one e]
    exact bits_or_u64_nat (e * 2) 1 (by omega) (by decide)
  go_enter Try.func61, Try.ntmps61
  go_wp2
  go_ret
  exact ⟨by first | rfl | (simp only [B3]; rfl), rfl⟩
theorem int_neq (a b : Nat) : ((a : Int) != (b : Int)) = (a != b) := by
  rw [Bool.eq_iff_iff, bne_iff_ne, bne_iff_ne]
  exact ⟨fun h e => h (congrArg _ e), fun h e => h (Int.ofNat_inj.1 e)⟩
theorem epLags_any (a e : Nat) (ha : a < 18446744073709551616) (he : e < 4611686018427387904) (w : World) : Calls Try.prog 64 #[.int .u64 a, .int .u64 e] w fun r w' => r = .returned (.bool (lagsN a e)) ∧ w = w' := by
  have B0 : bits .and .u64 (a : Int) 1 = ((a % 2 : Nat) : Int) := by
    rw [← Nat.and_one_is_mod]
    exact bits_and_u64_nat a 1 ha (by decide)
  have AC := Lib.hid (epActive_any e he)
  obtain ⟨y, hy⟩ : ∃ y, 2 * e + 1 = y := ⟨_, rfl⟩
  rw [hy] at AC
  by_cases h1 : a % 2 = 1
  · have L : Hid (lagsN a e = (a != y)) := Lib.hid (by unfold lagsN; rw [h1, hy]; rfl)
    rw [h1] at B0
    have B1 : bits .and .u64 (a : Int) 1 = 1 := B0
    have N := Lib.hid (int_neq a y)
    clear B0 h1 hy ha he
    go_enter Try.func64, Try.ntmps64
    go_wp2_with (first
      | (go_at_call 61; refine (AC.out _).mono ?_; rintro r w' ⟨rfl, rfl⟩))
    go_ret
    exact ⟨by rw [L.out, ← N.out]; rfl, rfl⟩
  · have h0 : a % 2 = 0 := by omega
    have L : Hid (lagsN a e = false) := Lib.hid (by unfold lagsN; rw [h0]; rfl)
    rw [h0] at B0
    have B1 : bits .and .u64 (a : Int) 1 = 0 := B0
    clear B0 h1 h0 hy ha he
    go_enter Try.func64, Try.ntmps64
    go_wp2_with (first
      | (go_at_call 61; refine (AC.out _).mono ?_; rintro r w' ⟨rfl, rfl⟩))
    go_ret
    exact ⟨by rw [L.out]; rfl, rfl⟩
/-- The threads of a level, by a configuration's cells. -/
def atC (c : Nat → Int) (T lv : Nat) : List Nat := (List.range T).filter fun t => c (2 + t) == (lv : Int)
theorem atC_succ (c : Nat → Int) (k lv : Nat) : atC c (k + 1) lv = if c (2 + k) == (lv : Int) then atC c k lv ++ [k] else atC c k lv := by
  unfold atC
  rw [List.range_succ, List.filter_append]
  cases h : (c (2 + k) == (lv : Int)) <;> simp [h]
theorem atC_le (c : Nat → Int) (k lv : Nat) : (atC c k lv).length ≤ k := by
  unfold atC
  exact Nat.le_trans (List.length_filter_le _ _) (by simp)
section
variable {σ w : World} {M : Mm}
theorem atWant_eq (h : Has σ M w) {bl : Nat} {lv x : Int} (hb : M bl = some (.cells #[.int .i64 lv] 3)) : Calls Try.prog 81 #[.int .i64 x, .pointer (some ⟨bl, 0, none⟩)] w fun r w' => r = .returned (.bool (x == lv)) ∧ Has σ M w' := by
  have e0 : (#[.int .i64 lv] : Array Value)[0]? = some (.int .i64 lv) := rfl
  go_enter Try.func81, Try.ntmps81
  go_wp2_with (first
    | (with_reducible show wpList _ _ _ ({ dst := _, op := Op.load 3 _, type := _, pos := _, after := _, guard := _ } :: _) _ _; refine wpList_load1_has h rfl 3 _ rfl rfl hb e0 Try.underlying3 rfl ?_))
  go_ret
  exact ⟨rfl, h⟩
set_option maxHeartbeats 2000000 in
set_option maxRecDepth 20000 in
theorem confThose_eq (h : Has σ M w) (c : Nat → Int) (hm : confMayB c = true) {T : Nat} (hT : c 1 = (T : Nat)) {lv bl : Nat} (hb : M bl = some (.cells #[.int .i64 (lv : Nat)] 3)) : Calls Try.prog 80 #[confV c, .func (.func 81) #[] #[.pointer (some ⟨bl, 0, none⟩)]] w fun r w' => ∃ v, r = .returned v ∧ Acc σ M w' 3 1 v (atC c T lv).length (natv (atC c T lv)) := by
  have hc := confMay_of hm
  have hT8 : 1 ≤ T ∧ T ≤ 8 := by have := hc.2.1; omega
  have hx : (ints .i64 14 c).extract 0 (0 + 14) = ints .i64 14 c := rfl
  have hz : (ints .i64 14 c).size = 14 := rfl
  have r1 : (ints .i64 14 c)[1]? = some (.int .i64 (T : Nat)) := by rw [← hT]; rfl
  have MY : Hid (∀ (M' : Mm) (w : World), Has σ M' w → Calls Try.prog 48 #[confV c] w fun e w' => e = .returned (.bool (confMayB c)) ∧ Has σ M' w') := Lib.hid fun M' w h => (confMay_any c w).mono fun e w' ⟨h1, h2⟩ => ⟨h1, h.below h2⟩
  rw [hm] at MY
  have G : Hid (∀ t, t < T → (ints .i64 14 c)[2 + t]? = some (.int .i64 (c (2 + t)))) := Lib.hid fun t ht => ints_get (by omega)
  unfold confV at MY ⊢
  generalize ints .i64 14 c = row at *
  clear hm hc hT
  go_enter Try.func80, Try.ntmps80
  go_upto_region 1 with (fail)
  obtain ⟨M1, hbx, hle, hbf, hnf⟩ := h.box (.cells row 24)
  generalize w.alloc _ = wx at hbx ⊢
  generalize w.heap.size = bf at hbf hnf ⊢
  clear h
  try clear w
  have h := hbx
  clear hbx
  obtain ⟨w, rfl⟩ : ∃ x : World, x = wx := ⟨_, rfl⟩
  have hbl := hle _ _ hb
  go_upto_region 5 with (first
    | ((with_reducible show wpList _ _ _ ({ dst := _, op := Op.load 24 _, type := _, pos := _, after := _, guard := _ } :: _) _ _); refine wpList_agg_has h rfl 24 _ rfl rfl hbf hx hz Try.underlying24 rfl (by kernel_rfl) ?_; try simp only [Act.put, List.setIfInBounds_toArray, List.set_cons_zero, List.set_cons_succ])
    | (go_at_call 48; refine (MY.out _ _ h).mono ?_; clear h; rintro _ w ⟨rfl, h⟩)
    | (with_reducible show wpList _ _ _ ({ dst := _, op := Op.load 3 _, type := _, pos := _, after := _, guard := _ } :: _) _ _; refine wpList_load1_has h rfl 3 _ rfl rfl hbf r1 Try.underlying3 rfl ?_))
  go_loopw [5, 6, 12] (fun o _ u wr => ∃ k : Nat, k ≤ T ∧ u = .int .i64 (k : Nat) ∧ Acc σ M1 wr 3 1 o (atC c k lv).length (natv (atC c k lv))) (fun _ _ u _ => T - (intOf u).toNat)
  case atStart => exact ⟨0, Nat.zero_le _, rfl, Acc.nil h _ _⟩
  case round =>
    clear h w
    obtain ⟨w, rfl⟩ : ∃ x : World, x = wr := ⟨_, rfl⟩
    obtain ⟨k, hk, rfl, M2, h, hle2, hown⟩ := hrel
    have hbf2 := hle2 _ _ hbf
    have hbl2 := hle2 _ _ hbl
    obtain ⟨Ao, co, rfl⟩ := hown.form
    by_cases hlt : k < T
    · have gk := G.out k hlt
      have hlt' : (k : Int) < (T : Int) := by omega
      have hk8 : (k : Int) < 8 := by omega
      have wk : IntKind.i64.wrap ((k : Int) + 1) = ((k + 1 : Nat) : Int) := by rw [show (k : Int) + 1 = ((k + 1 : Nat) : Int) by omega]; exact IntWalk.i64_in _ (by omega)
      have WT := Lib.hid (fun (w : World) (h : Has σ M2 w) => atWant_eq (x := c (2 + k)) h hbl2)
      have SU := Lib.hid (atC_succ c k lv)
      have HLT := Lib.hid hlt
      have hle8 := atC_le c k lv
      clear hlt hk
      obtain ⟨b, hbb⟩ : ∃ b : Bool, (c (2 + k) == (lv : Int)) = b := ⟨_, rfl⟩
      rw [hbb] at WT SU
      clear hbb
      generalize hal : atC c k lv = al at *
      clear hal
      obtain ⟨nl, hnl⟩ : ∃ nl, al.length = nl := ⟨_, rfl⟩
      rw [hnl] at hown hle8
      have HNL := Lib.hid hnl
      rw [hnl]
      clear hnl
      cases b
      · go_wp2_with (first
          | (with_reducible show wpList _ _ _ ({ dst := _, op := Op.load 3 _, type := _, pos := _, after := _, guard := _ } :: _) _ _; refine wpList_load1_has h rfl 3 _ rfl rfl hbf2 gk Try.underlying3 rfl ?_)
          | ((go_at_call 81; refine (WT.out _ h).mono ?_; clear h; rintro _ w ⟨rfl, h⟩)))
        go_roundw
        case rel => exact ⟨k + 1, by have := HLT.out; omega, by go_num, by rw [SU.out, if_neg (by decide), HNL.out]; exact ⟨M2, h, hle2, hown⟩⟩
        case measure => have := HLT.out; simp [intOf]; omega
      · go_wp2_with (first
          | (with_reducible show wpList _ _ _ ({ dst := _, op := Op.load 3 _, type := _, pos := _, after := _, guard := _ } :: _) _ _; refine wpList_load1_has h rfl 3 _ rfl rfl hbf2 gk Try.underlying3 rfl ?_)
          | ((go_at_call 81; refine (WT.out _ h).mono ?_; clear h; rintro _ w ⟨rfl, h⟩))
          | (at_builtin; refine wpList_append_lit h hle2 rfl _ _ _ rfl rfl Try.underlying40 info_int rfl (by omega) rfl hown rfl rfl rfl (by omega) (by omega) ?_; clear h hle2 hown; intro v w hacc))
        go_roundw
        case rel => exact ⟨k + 1, by have := HLT.out; omega, by go_num, by rw [SU.out, if_pos (by decide), natv_snoc', List.length_append, HNL.out]; exact hacc⟩
        case measure => have := HLT.out; simp [intOf]; omega
    · obtain rfl : k = T := by omega
      have hlt' : ¬ (k : Int) < (k : Int) := by omega
      go_wp2
      go_ret
      exact ⟨_, rfl, M2, h, Mm.le_trans hle hle2, hown.base fun b hb => Mm.none_of hle hb⟩
theorem confAt_eq (h : Has σ M w) (c : Nat → Int) (hm : confMayB c = true) {T : Nat} (hT : c 1 = (T : Nat)) (lv : Nat) : Calls Try.prog 63 #[confV c, .int .i64 (lv : Nat)] w fun r w' => ∃ v, r = .returned v ∧ Acc σ M w' 3 1 v (atC c T lv).length (natv (atC c T lv)) := by
  have hx : (ints .i64 14 c).extract 0 (0 + 14) = ints .i64 14 c := rfl
  have hz : (ints .i64 14 c).size = 14 := rfl
  have TH := Lib.hid (fun (M' : Mm) (w : World) (bl : Nat) (h : Has σ M' w) (hb : M' bl = some (.cells #[.int .i64 (lv : Nat)] 3)) => confThose_eq h c hm hT hb)
  unfold confV at TH ⊢
  generalize ints .i64 14 c = row at *
  generalize natv (atC c T lv) = xs at *
  generalize (atC c T lv).length = nl at *
  clear hm hT
  go_enter Try.func63, Try.ntmps63
  go_upto_region 1 with (fail)
  obtain ⟨M', hbx, hle, hb1, hb2, hn1, hn2⟩ := h.box2 (.cells row 24) (.cells #[.int .i64 (lv : Nat)] 3)
  generalize (w.alloc _).alloc _ = wx at hbx ⊢
  have hne_b1_b2 : w.heap.size ≠ w.heap.size + 1 := Nat.ne_of_lt (Nat.lt_succ_self _)
  generalize w.heap.size + 1 = b2 at hb2 hn2 hne_b1_b2 ⊢
  generalize w.heap.size = b1 at hb1 hn1 hne_b1_b2 ⊢
  clear h
  try clear w
  have h := hbx
  clear hbx
  obtain ⟨w, rfl⟩ : ∃ x : World, x = wx := ⟨_, rfl⟩
  go_wp2_with (first
    | ((with_reducible show wpList _ _ _ ({ dst := _, op := Op.load 24 _, type := _, pos := _, after := _, guard := _ } :: _) _ _); refine wpList_agg_has h rfl 24 _ rfl rfl hb1 hx hz Try.underlying24 rfl (by kernel_rfl) ?_; try simp only [Act.put, List.setIfInBounds_toArray, List.set_cons_zero, List.set_cons_succ])
    | ((go_at_call 80; refine (TH.out _ _ _ h hb2).mono ?_; clear h; rintro _ w ⟨v, rfl, M5, h, hle5, hown⟩)))
  go_ret
  exact ⟨v, rfl, M5, h, Mm.le_trans hle hle5, hown.base fun b hb => Mm.none_of hle hb⟩
end
end
end Go.Proofs.Ytjeeldacnllipaa
