/- A range over a function, over memory known in part: no round; how such a function is opened, and left. -/
import Derived.Test.YtlpkimpdeeiaaaaGreatCom
import Derived.RangeFuncOwn
import Derived.RangeFuncLeaves
import Derived.Shelf.Abstract
namespace Go.Proofs.YtlpkimpdeeiaaaaGreat
open Go.RowKit
set_option linter.unusedVariables false
set_option linter.unusedSimpArgs false
theorem Has.putObj {σ w : World} {M : Mm} {b : Nat} {o : Obj} (h : Has σ M w) (hb : M b = some o) (o' : Obj) : Has σ (M.upd b o') (w.putObj b o') := by
  have hlt := h.lt hb
  refine ⟨h.os, h.tape, h.output, by rw [World.putObj_size]; exact h.size, fun c x hc => ?_⟩
  by_cases e : c = b
  · subst e
    rw [Mm.upd_same] at hc
    cases hc
    exact World.putObj_heap_same hlt
  · rw [Mm.upd_ne e] at hc
    rw [World.putObj_heap_other e]
    exact h.at_ _ _ hc
theorem wp_range_none {P : Program} {σ w : World} {M : Mm} {g : Operand} {ps : Array Tmp} {assign body : Code} {Q : Exit → Act → World → Prop} {a : Act} (h : Has σ M w) {gf : Nat} {lb : Array Value} (hg : a.eval g = .func (.func gf) #[] lb) (eg : ∀ args w, (callFunc gf args).run P w = .ok (.enter gf args) w)
    (hc : ∀ (y : Value) (M2 : Mm) (w2 : World), M.le M2 → Has σ M2 w2 → Calls P gf (#[y] ++ lb) w2 fun r w3 => ∃ v, r = .returned v ∧ Has σ M2 w3)
    (hk : ∀ (D : Nat) (M4 : Mm) (w4 : World), Has σ M4 w4 → M.le M4 → M4 D = some (.deferred (some [])) → M D = none → Q .normal { a with defers := { target := .collected D, args := #[] } :: a.defers } w4) :
    (Code.rangeFunc g ps assign body).wp P Q a w := by
  refine (wpIn_wide (n := 0)).1 (wpIn_rangeFunc fun fn _ => ?_)
  have h1 := h.alloc (.deferred (some []))
  have hf1 := h1.fresh
  have e1 : (w.alloc (.deferred (some []))).heap.size = w.heap.size + 1 := by simp
  rw [e1] at hf1
  have h2 := h1.alloc (.loop { state := .ready, pending := none, fn, tmps := a.tmps, params := ps, assign, body, defers := w.heap.size })
  rw [e1] at h2
  have hle1 := Mm.le_upd' h.fresh (.deferred (some []))
  have hle2 := Mm.le_upd' hf1 (.loop { state := .ready, pending := none, fn, tmps := a.tmps, params := ps, assign, body, defers := w.heap.size })
  have hD := hle2 _ _ (Mm.upd_same M w.heap.size (.deferred (some [])))
  have hne : w.heap.size ≠ w.heap.size + 1 := Nat.ne_of_lt (Nat.lt_succ_self _)
  have hen := run_enterLoop_outer (P := P) (w := w) fn a.tmps ps assign body
  generalize (w.alloc (.deferred (some []))).alloc (.loop { state := .ready, pending := none, fn, tmps := a.tmps, params := ps, assign, body, defers := w.heap.size }) = W1 at h2 hen
  refine ⟨w.heap.size + 1, [{ target := .collected w.heap.size, args := #[] }], W1, { target := .fn (.func gf) lb, args := #[.func (.yield (w.heap.size + 1)) #[] #[]] }, W1, gf, #[.func (.yield (w.heap.size + 1)) #[] #[]] ++ lb, W1, hen, ?_, fun _ _ => trivial, ?_, fun e => (by cases e), ?_⟩
  · simp only [resolve, hg]
    simp [go_sem]
  · simp [invoke, go_sem, eg]
  · refine callsIn_wide.2 ((hc _ _ _ (Mm.le_trans hle1 hle2) h2).mono ?_)
    rintro r w3 ⟨v, rfl, h3⟩
    have hL := h3.at_ _ _ (Mm.upd_same _ _ _)
    refine ⟨none, _, run_endLoop hL (by simp), ?_⟩
    have h4 := h3.putObj (Mm.upd_same _ _ _) (.loop { state := .exhausted, pending := none, fn, tmps := a.tmps, params := ps, assign, body, defers := w.heap.size })
    refine hk w.heap.size _ _ h4 ?_ ?_ h.fresh
    · rw [Mm.upd_upd]
      exact Mm.le_trans hle1 (Mm.le_upd' hf1 _)
    · rw [Mm.upd_upd, Mm.upd_ne hne]
      exact Mm.upd_same _ _ _
/-- A function whose body holds a range over a function. -/
theorem calls_marks {P : Program} {f : FuncId} {fn : Func} {c : Code} {args : Array Value} {w : World} {R : Ending → World → Prop} (hf : P.funcs[f]? = some fn) (hb : fn.body = some c)
    (h : c.wp P (bodyPostM Fence.wide 0 P fn R) { tmps := args ++ Array.replicate (fn.ntmps - args.size) undef, defers := [] } w) : Calls P f args w R :=
  callsIn_wide.1 (callsIn_of_wp_marks hf hb trivial (wpIn_wide.2 h))
/-- Such a function returns. -/
theorem ret_mark {P : Program} {σ w : World} {M : Mm} {fn : Func} {R : Ending → World → Prop} {tmps : Array Value} {D : Nat} (h : Has σ M w) (hD : M D = some (.deferred (some []))) {v : Value}
    (hv : ∀ w', Has σ (M.upd D (.deferred none)) w' → (results fn tmps).run P w' = .ok v w' ∧ R (.returned v) w') :
    bodyPostM Fence.wide 0 P fn R .ret { tmps := tmps, defers := [{ target := .collected D, args := #[] }] } w := by
  have h2 := h.putObj hD (.deferred none)
  obtain ⟨e, hr⟩ := hv _ h2
  exact ⟨by simp, .inl ⟨D, _, rfl, run_takeDeferred (h.at_ _ _ hD), v, e, hr⟩⟩
end Go.Proofs.YtlpkimpdeeiaaaaGreat
