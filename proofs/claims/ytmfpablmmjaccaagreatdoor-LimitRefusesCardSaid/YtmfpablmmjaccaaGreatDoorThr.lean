/- Walks of layer 20 (thread): what a thread is, New, Deep, Top, Runs. -/
import Derived.Test.YtmfpablmmjaccaaGreatDoorKeep
namespace Go.Proofs.YtmfpablmmjaccaaGreatDoor
open Go.RowKit
set_option linter.unusedVariables false
set_option linter.unusedSimpArgs false
set_option linter.unnecessarySimpa false
structure FrameS where
  fn : Int
  at_ : Int
  r : Nat → Int
def FrameS.row (f : FrameS) : Array Value := #[.int .i64 f.fn, .int .i64 f.at_, .int .u64 (f.r 0), .int .u64 (f.r 1), .int .u64 (f.r 2), .int .u64 (f.r 3), .int .u64 (f.r 4), .int .u64 (f.r 5), .int .u64 (f.r 6), .int .u64 (f.r 7), .int .u64 (f.r 8), .int .u64 (f.r 9), .int .u64 (f.r 10), .int .u64 (f.r 11), .int .u64 (f.r 12), .int .u64 (f.r 13), .int .u64 (f.r 14), .int .u64 (f.r 15)]
structure ThrS where
  told : Nat → Int
  owns : Int
  st : Bool
  ki : Bool
  frames : List FrameS
  handles : List Int
def ThrS.row (x : ThrS) (fv hv : Value) : Array Value := #[.int .u64 (x.told 0), .int .u64 (x.told 1), .int .u64 (x.told 2), .int .u64 (x.told 3), .int .u64 (x.told 4), .int .u64 (x.told 5), .int .u64 (x.told 6), .int .u64 (x.told 7), .int .i64 x.owns, .bool x.st, .bool x.ki, fv, hv]
def ptrs (l : List Nat) : List Value := l.map fun b => .pointer (some ⟨b, 0, none⟩)
def u64s (l : List Int) : List Value := l.map fun v => .int .u64 v
/-- A thread's parts: labels 10 + 4 t (itself), 11 + 4 t (its row of frames), 12 + 4 t (frames), 13 + 4 t (its row of handles). -/
structure Thr (M : Mm) (lab : Nat → Nat) (t p : Nat) (x : ThrS) (fv hv : Value) (fbs : List Nat) : Prop where
  obj : M p = some (.cells (x.row fv hv) 42)
  mark : lab p = 10 + 4 * t
  frow : Row M lab (11 + 4 * t) 116 1 fv fbs.length (ptrs fbs)
  flen : fbs.length = x.frames.length
  nodup : fbs.Nodup
  frame : ∀ (i b : Nat) (f : FrameS), fbs[i]? = some b → x.frames[i]? = some f → M b = some (.cells f.row 119) ∧ lab b = 12 + 4 * t
  hrow : Row M lab (13 + 4 * t) 37 1 hv x.handles.length (u64s x.handles)
def IsThr (M : Mm) (lab : Nat → Nat) (t p : Nat) (x : ThrS) : Prop := ∃ fv hv fbs, Thr M lab t p x fv hv fbs
def OfThr (t : Nat) : Nat → Prop := fun k => 10 + 4 * t ≤ k ∧ k < 14 + 4 * t
section
variable {σ w : World} {M M' : Mm} {lab lab' : Nat → Nat} {A : Nat → Prop} {t p : Nat} {x : ThrS} {fv hv : Value} {fbs : List Nat} {b : Nat}
theorem Thr.keep (h : Thr M lab t p x fv hv fbs) (hK : Kp A M lab M' lab') (hA : ∀ k, OfThr t k → ¬ A k) : Thr M' lab' t p x fv hv fbs := by
  obtain ⟨h1, h2, h3, h4, h5, h6, h7⟩ := h
  obtain ⟨a1, a2⟩ := hK.get h1 h2 (hA _ ⟨by omega, by omega⟩)
  exact ⟨a1, a2, h3.keep hK (hA _ ⟨by omega, by omega⟩), h4, h5, fun i b f hb hf => hK.get (h6 i b f hb hf).1 (h6 i b f hb hf).2 (hA _ ⟨by omega, by omega⟩), h7.keep hK (hA _ ⟨by omega, by omega⟩)⟩
theorem IsThr.keep (h : IsThr M lab t p x) (hK : Kp A M lab M' lab') (hA : ∀ k, OfThr t k → ¬ A k) : IsThr M' lab' t p x := by
  obtain ⟨fv, hv, fbs, h⟩ := h
  exact ⟨fv, hv, fbs, h.keep hK hA⟩
theorem ptrs_len (l : List Nat) : (ptrs l).length = l.length := by simp [ptrs]
theorem ptrs_one (l : List Nat) : ∀ v ∈ ptrs l, v.oneCell' = true := by
  intro v hv
  simp [ptrs] at hv
  obtain ⟨b, _, rfl⟩ := hv
  rfl
theorem ptrs_get {l : List Nat} {i b : Nat} (h : l[i]? = some b) : (ptrs l)[i]? = some (.pointer (some ⟨b, 0, none⟩)) := by simp [ptrs, h]
theorem u64s_one (l : List Int) : ∀ v ∈ u64s l, v.oneCell' = true := by
  intro v hv
  simp [u64s] at hv
  obtain ⟨b, _, rfl⟩ := hv
  rfl
def thr0 : ThrS := ⟨fun _ => 0, 0, false, false, [], []⟩
/-- thread.New -/
theorem thrNew_eq (h : Has σ M w) : Calls Tryz.prog 19 #[] w fun r w' => ∃ p, r = .returned (.pointer (some ⟨p, 0, none⟩)) ∧ M p = none ∧ Has σ (M.upd p (.cells (thr0.row (.slice none 0 0) (.slice none 0 0)) 42)) w' := by
  go_enter Tryz.func19, Tryz.ntmps19
  go_wp2
  go_ret
  exact ⟨_, rfl, h.fresh, h.alloc _⟩
theorem thr0_is (M : Mm) (lab : Nat → Nat) (t p : Nat) (hl : lab p = 10 + 4 * t) : IsThr (M.upd p (.cells (thr0.row (.slice none 0 0) (.slice none 0 0)) 42)) lab t p thr0 :=
  ⟨_, _, [], Mm.upd_same _ _ _, hl, Row.nil _ _ _ _ _, rfl, List.nodup_nil, fun i b f hb _ => by simp at hb, Row.nil _ _ _ _ _⟩
theorem thrDeep_eq (h : Has σ M w) (hT : Thr M lab t p x fv hv fbs) : Calls Tryz.prog 24 #[.pointer (some ⟨p, 0, none⟩)] w fun r w' => r = .returned (.int .i64 (fbs.length : Nat)) ∧ Has σ M w' := by
  obtain ⟨A, c, rfl⟩ := hT.frow.form
  have c11 : w.cell? ⟨p, 11, none⟩ = some (.slice A fbs.length c) := h.cell hT.obj 11
  go_enter Tryz.func24, Tryz.ntmps24
  go_wp2
  go_ret
  exact ⟨rfl, h⟩
theorem thrRuns_eq (h : Has σ M w) (hT : Thr M lab t p x fv hv fbs) : Calls Tryz.prog 54 #[.pointer (some ⟨p, 0, none⟩)] w fun r w' => r = .returned (.bool (!x.st && !x.ki)) ∧ Has σ M w' := by
  have c9 : w.cell? ⟨p, 9, none⟩ = some (.bool x.st) := h.cell hT.obj 9
  have c10 : w.cell? ⟨p, 10, none⟩ = some (.bool x.ki) := h.cell hT.obj 10
  cases h9 : x.st
  all_goals cases h10 : x.ki
  all_goals
    rw [h9] at c9
    rw [h10] at c10
    go_enter Tryz.func54, Tryz.ntmps54
    go_wp2
    go_ret
    exact ⟨rfl, h⟩
/-- Top: the last frame. -/
theorem thrTop_nil (h : Has σ M w) (hT : Thr M lab t p x fv hv []) : Calls Tryz.prog 67 #[.pointer (some ⟨p, 0, none⟩)] w fun r w' => r = .returned (.pointer none) ∧ Has σ M w' := by
  have TD := Lib.hid (fun (w : World) (h : Has σ M w) => thrDeep_eq h hT)
  go_enter Tryz.func67, Tryz.ntmps67
  go_wp2_with (first
    | (go_at_call 24; refine (TD.out _ h).mono ?_; clear h; rintro _ w ⟨rfl, h⟩))
  go_ret
  exact ⟨rfl, h⟩
theorem thrTop_eq (h : Has σ M w) (hT : Thr M lab t p x fv hv (fbs ++ [b])) (h63 : fbs.length < 1000000000) : Calls Tryz.prog 67 #[.pointer (some ⟨p, 0, none⟩)] w fun r w' => r = .returned (.pointer (some ⟨b, 0, none⟩)) ∧ Has σ M w' := by
  have TD := Lib.hid (fun (w : World) (h : Has σ M w) => thrDeep_eq h hT)
  have hl : (fbs ++ [b]).length = fbs.length + 1 := by simp
  have hr := hT.frow
  obtain ⟨g, c, rfl⟩ := Own.pos hr (by rw [hl]; omega)
  obtain ⟨cur, hg, hcur⟩ := Own.at_ hr
  have e0 := hcur fbs.length _ (ptrs_get (b := b) (by simp))
  have h11 : ∀ w, Has σ M w → w.cell? ⟨p, 11, none⟩ = some (.slice (some ⟨g, 0, none⟩) (fbs ++ [b]).length c) := fun w h => h.cell hT.obj 11
  clear hr hcur hT
  rw [hl] at h11 TD
  generalize fbs.length = n at *
  replace h11 := Lib.hid h11
  go_enter Tryz.func67, Tryz.ntmps67
  have gn : decide (((n + 1 : Nat) : Int) = 0) = false := decide_eq_false (by omega)
  go_wp2_with (first
    | (go_at_call 24; refine (TD.out _ h).mono ?_; clear h; rintro _ w ⟨rfl, h⟩; have c11 := h11.out w h; have ce := h.cell hg n; rw [e0] at ce))
  go_ret
  trace_state
  exact ⟨rfl, h⟩
end
end Go.Proofs.YtmfpablmmjaccaaGreatDoor
