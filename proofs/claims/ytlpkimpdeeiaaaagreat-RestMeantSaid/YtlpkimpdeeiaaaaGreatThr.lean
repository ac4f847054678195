/- Walks of layer 20 (thread): what a thread is, New, Deep, Top, Runs. -/
import Derived.Test.YtlpkimpdeeiaaaaGreatKeep
namespace Go.Proofs.YtlpkimpdeeiaaaaGreat
open Go.RowKit
set_option linter.unusedVariables false
set_option linter.unusedSimpArgs false
set_option linter.unnecessarySimpa false
structure FrameS where
  fn : Int
  at_ : Int
  r : Nat → Int
def FrameS.row (f : FrameS) : Array Value := #[.int .i64 f.fn, .int .i64 f.at_, .int .u64 (f.r 0), .int .u64 (f.r 1), .int .u64 (f.r 2), .int .u64 (f.r 3), .int .u64 (f.r 4), .int .u64 (f.r 5), .int .u64 (f.r 6), .int .u64 (f.r 7), .int .u64 (f.r 8), .int .u64 (f.r 9), .int .u64 (f.r 10), .int .u64 (f.r 11), .int .u64 (f.r 12), .int .u64 (f.r 13), .int .u64 (f.r 14), .int .u64 (f.r 15)]
structure ThrS where
  told : Nat → Int
  owns : Int
  st : Bool
  ki : Bool
  frames : List FrameS
  handles : List Int
def ThrS.row (x : ThrS) (fv hv : Value) : Array Value := #[.int .u64 (x.told 0), .int .u64 (x.told 1), .int .u64 (x.told 2), .int .u64 (x.told 3), .int .u64 (x.told 4), .int .u64 (x.told 5), .int .u64 (x.told 6), .int .u64 (x.told 7), .int .i64 x.owns, .bool x.st, .bool x.ki, fv, hv]
def ptrs (l : List Nat) : List Value := l.map fun b => .pointer (some ⟨b, 0, none⟩)
def u64s (l : List Int) : List Value := l.map fun v => .int .u64 v
/-- A thread's parts: labels 10 + 4 t (itself), 11 + 4 t (its row of frames), 12 + 4 t (frames), 13 + 4 t (its row of handles). -/
structure Thr (M : Mm) (lab : Nat → Nat) (t p : Nat) (x : ThrS) (fv hv : Value) (fbs : List Nat) : Prop where
  obj : M p = some (.cells (x.row fv hv) 112)
  mark : lab p = 10 + 4 * t
  frow : Row M lab (11 + 4 * t) 200 1 fv fbs.length (ptrs fbs)
  flen : fbs.length = x.frames.length
  nodup : fbs.Nodup
  frame : ∀ (i b : Nat) (f : FrameS), fbs[i]? = some b → x.frames[i]? = some f → M b = some (.cells f.row 204) ∧ lab b = 12 + 4 * t
  hrow : Row M lab (13 + 4 * t) 46 1 hv x.handles.length (u64s x.handles)
def IsThr (M : Mm) (lab : Nat → Nat) (t p : Nat) (x : ThrS) : Prop := ∃ fv hv fbs, Thr M lab t p x fv hv fbs
def OfThr (t : Nat) : Nat → Prop := fun k => 10 + 4 * t ≤ k ∧ k < 14 + 4 * t
section
variable {σ w : World} {M M' : Mm} {lab lab' : Nat → Nat} {A : Nat → Prop} {t p : Nat} {x : ThrS} {fv hv : Value} {fbs : List Nat} {b : Nat}
theorem Thr.keep (h : Thr M lab t p x fv hv fbs) (hK : Kp A M lab M' lab') (hA : ∀ k, OfThr t k → ¬ A k) : Thr M' lab' t p x fv hv fbs := by
  obtain ⟨h1, h2, h3, h4, h5, h6, h7⟩ := h
  obtain ⟨a1, a2⟩ := hK.get h1 h2 (hA _ ⟨by omega, by omega⟩)
  exact ⟨a1, a2, h3.keep hK (hA _ ⟨by omega, by omega⟩), h4, h5, fun i b f hb hf => hK.get (h6 i b f hb hf).1 (h6 i b f hb hf).2 (hA _ ⟨by omega, by omega⟩), h7.keep hK (hA _ ⟨by omega, by omega⟩)⟩
theorem IsThr.keep (h : IsThr M lab t p x) (hK : Kp A M lab M' lab') (hA : ∀ k, OfThr t k → ¬ A k) : IsThr M' lab' t p x := by
  obtain ⟨fv, hv, fbs, h⟩ := h
  exact ⟨fv, hv, fbs, h.keep hK hA⟩
theorem ptrs_len (l : List Nat) : (ptrs l).length = l.length := by simp [ptrs]
theorem ptrs_one (l : List Nat) : ∀ v ∈ ptrs l, v.oneCell' = true := by
  intro v hv
  simp [ptrs] at hv
  obtain ⟨b, _, rfl⟩ := hv
  rfl
theorem ptrs_get {l : List Nat} {i b : Nat} (h : l[i]? = some b) : (ptrs l)[i]? = some (.pointer (some ⟨b, 0, none⟩)) := by simp [ptrs, h]
theorem u64s_one (l : List Int) : ∀ v ∈ u64s l, v.oneCell' = true := by
  intro v hv
  simp [u64s] at hv
  obtain ⟨b, _, rfl⟩ := hv
  rfl
def thr0 : ThrS := ⟨fun _ => 0, 0, false, false, [], []⟩
/-- thread.New -/
theorem thrNew_eq (h : Has σ M w) : Calls Tryz.prog 22 #[] w fun r w' => ∃ p, r = .returned (.pointer (some ⟨p, 0, none⟩)) ∧ M p = none ∧ Has σ (M.upd p (.cells (thr0.row (.slice none 0 0) (.slice none 0 0)) 112)) w' := by
  go_enter Tryz.func22, Tryz.ntmps22
  go_wp2
  go_ret
  exact ⟨_, rfl, h.fresh, h.alloc _⟩
theorem thr0_is (M : Mm) (lab : Nat → Nat) (t p : Nat) (hl : lab p = 10 + 4 * t) : IsThr (M.upd p (.cells (thr0.row (.slice none 0 0) (.slice none 0 0)) 112)) lab t p thr0 :=
  ⟨_, _, [], Mm.upd_same _ _ _, hl, Row.nil _ _ _ _ _, rfl, List.nodup_nil, fun i b f hb _ => by simp at hb, Row.nil _ _ _ _ _⟩
end
end Go.Proofs.YtlpkimpdeeiaaaaGreat
