/- Law 22: a step of Take. -/
import Derived.Test.YtefjjagejgeedaaAlone
namespace Go.Proofs.Ytefjjagejgeedaa
open Go.RowKit
set_option linter.unusedVariables false
set_option linter.unusedSimpArgs false
set_option linter.unnecessarySimpa false
/-- The machine behind a step that brought it to s2. -/
def MachS.after (s2 s : MachS) (lv : Nat) : MachS := MachS.watch { s2 with steps := s2.steps + 1 } lv s.mem.acc s.mem.wr
theorem after_same (s2 s : MachS) (lv : Nat) : (s2.after s lv).c = s2.c ∧ (s2.after s lv).tp = s2.tp ∧ (s2.after s lv).mem = s2.mem ∧ (s2.after s lv).ward = s2.ward ∧ (s2.after s lv).thr = s2.thr ∧ (s2.after s lv).clk = s2.clk ∧ (s2.after s lv).steps = s2.steps + 1 ∧ (s2.after s lv).given = s2.given := by
  unfold MachS.after MachS.watch
  repeat' split
  all_goals exact ⟨rfl, rfl, rfl, rfl, rfl, rfl, rfl, rfl⟩
theorem step_take {σ w : World} {K M : Mm} {lab : Nat → Nat} {p t q lv : Nat} {s : MachS} {fs : List FrameS} {f : FrameS} (h : Has σ M w) (hM : Mach M lab p s) (hB : Base K M lab) (hq : s.tp[t]? = some q) (hf : (s.thr t).frames = fs ++ [f]) (hfn : f.fn = 1) (hrun : ((s.thr t).st || (s.thr t).ki) = false) (hlv : levelOf s.c t = (lv : Nat))
    (hb1 : s.mem.acc < 1000000000) (hb2 : s.steps < 1000000) (hb3 : ∀ k, s.clk k < 1000000000) (hfs : fs.length < 1000000) {s2 : MachS} (e1 : s2.tp = s.tp) (e2 : s2.steps = s.steps) (e3 : (s2.thr t).frames.length ≤ fs.length + 1)
    (hstep : ∀ (b : Nat) (K1 M1 : Mm) (lab1 : Nat → Nat) (w1 : World), Has σ M1 w1 → AtTop K1 M1 lab1 p (s.tick lv) t q b fs f → Calls Try.prog 31 #[.agg (runC p t q b)] w1 fun r w' => r = .returned (.tuple #[]) ∧ ∃ M' lab', Has σ M' w' ∧ Mach M' lab' p s2 ∧ Base K1 M' lab') :
    Calls Try.prog 26 #[.pointer (some ⟨p, 0, none⟩), .int .i64 (t : Nat), .func (.func 6) #[] #[]] w fun r w' => ∃ M' lab' b, r = .returned (.bool b) ∧ Has σ M' w' ∧ Mach M' lab' p (s2.after s lv) ∧ Base K M' lab' := by
  have STP := step_eq (R := fun x => x = s2) (F := 6) (caps := #[]) h hM hB hq (by rw [hf]; simp) hrun hlv hb1 (by omega) hb3 (by rw [hf]; simp; omega) (by kernel_rfl)
    (fun M1 lab1 w1 h1 hM1 hB1 => by
      obtain ⟨b, hT⟩ := AtTop.of (f := f) (fs := fs) hM1 hB1 hq hf
      refine (do_take h1 hT hfn hfs (s' := s2) (fun K1 M2 lab2 w2 h2 hT2 => hstep b K1 M2 lab2 w2 h2 hT2)).mono fun r w' ⟨e, M', lab', h', hB', hM'⟩ => ⟨e, M', lab', s2, h', hB', hM', rfl⟩)
    (fun x hx => by subst hx; exact ⟨e1, by rw [e2]; omega, by omega⟩)
  refine STP.mono fun r w' hr => ?_
  obtain ⟨M', lab', x, rfl, hr, h', hB', hM'⟩ := hr
  exact ⟨M', lab', _, hr, h', hM', hB'⟩
end Go.Proofs.Ytefjjagejgeedaa
