/- Layer 21 (machine): what a machine is; what it is asked. -/
import Derived.Test.YtlpkimpdeeiaaaaGreatThrB
import Derived.Test.YtlpkimpdeeiaaaaGreatWardB
import Derived.Test.YtlpkimpdeeiaaaaGreatCellsB
import Derived.Test.YtlpkimpdeeiaaaaGreatConfLevel
namespace Go.Proofs.YtlpkimpdeeiaaaaGreat
open Go.RowKit
set_option linter.unusedVariables false
set_option linter.unusedSimpArgs false
set_option linter.unnecessarySimpa false
structure GivenS where
  lv : Int
  link : Int
  clk : Nat → Nat
def encG (g : GivenS) : List Value := [.int .i64 g.lv, .int .u64 g.link, .int .i64 (g.clk 0 : Nat), .int .i64 (g.clk 1 : Nat), .int .i64 (g.clk 2 : Nat), .int .i64 (g.clk 3 : Nat)]
structure MachS where
  c : Nat → Int
  pl : Nat
  mp : Nat
  wp : Nat
  tv : Value
  tp : List Nat
  gv : Value
  given : List GivenS
  mem : MemS
  ward : WardS
  thr : Nat → ThrS
  clk : Nat → Nat
  steps : Nat
  fault : Bool
def MachS.row (s : MachS) : Array Value := #[.pointer (some ⟨s.pl, 0, none⟩), .pointer (some ⟨s.mp, 0, none⟩), .pointer (some ⟨s.wp, 0, none⟩), s.tv, .int .i64 (s.clk 0 : Nat), .int .i64 (s.clk 1 : Nat), .int .i64 (s.clk 2 : Nat), .int .i64 (s.clk 3 : Nat), s.gv, .int .i64 (s.steps : Nat), .bool s.fault]
/-- A machine in block p: labels 1 plan, 2 memory, 3 warden, 4 itself, 5 its row of threads, 6 its row of what was given. -/
structure Mach0 (M : Mm) (lab : Nat → Nat) (p : Nat) (s : MachS) : Prop where
  obj : M p = some (.cells s.row 73)
  mark : lab p = 4
  may : ConfMay s.c
  plan : M s.pl = some (planRow s.c)
  plab : lab s.pl = 1
  mem : IsMem M s.mp s.mem
  mlab : lab s.mp = 2 ∧ lab s.mem.wb = 2
  memN : (s.mem.N : Int) = s.c 0 * firsts s.c 10
  ward : IsWard M s.wp s.ward
  wlab : lab s.wp = 3 ∧ lab s.ward.hb = 3 ∧ lab s.ward.gb = 3
  wsz : s.ward.lv = s.c 0 ∧ s.ward.sl = s.c 10
  trow : Row M lab 5 74 1 s.tv s.tp.length (ptrs s.tp)
  each : ∀ (t p' : Nat), s.tp[t]? = some p' → IsThr M lab t p' (s.thr t)
  grow : Row M lab 6 199 6 s.gv s.given.length (s.given.flatMap encG)
structure Mach (M : Mm) (lab : Nat → Nat) (p : Nat) (s : MachS) : Prop extends Mach0 M lab p s where
  tlen : (s.tp.length : Int) = s.c 1
section
variable {σ w : World} {M M' : Mm} {lab lab' : Nat → Nat} {A : Nat → Prop} {t p : Nat} {s : MachS}
theorem IsMem.keep {q : Nat} {m : MemS} (h : IsMem M q m) (hl : lab q = 2 ∧ lab m.wb = 2) (hK : Kp A M lab M' lab') (hA : ¬ A 2) : IsMem M' q m ∧ lab' q = 2 ∧ lab' m.wb = 2 := by
  obtain ⟨a1, a2⟩ := hK.get h.obj hl.1 hA
  obtain ⟨b1, b2⟩ := hK.get h.row hl.2 hA
  exact ⟨⟨a1, b1⟩, a2, b2⟩
theorem IsWard.keep {q : Nat} {m : WardS} (h : IsWard M q m) (hl : lab q = 3 ∧ lab m.hb = 3 ∧ lab m.gb = 3) (hK : Kp A M lab M' lab') (hA : ¬ A 3) : IsWard M' q m ∧ lab' q = 3 ∧ lab' m.hb = 3 ∧ lab' m.gb = 3 := by
  obtain ⟨a1, a2⟩ := hK.get h.obj hl.1 hA
  obtain ⟨b1, b2⟩ := hK.get h.held hl.2.1 hA
  obtain ⟨c1, c2⟩ := hK.get h.gens hl.2.2 hA
  exact ⟨⟨a1, b1, c1, h.ne⟩, a2, b2, c2⟩
/-- Another state of the machine's own block, and perhaps of its row of threads. -/
theorem Mach0.own (hM : Mach0 M lab p s) (hK : Kp (fun k => k = 4 ∨ k = 5) M lab M' lab') {s' : MachS} (e1 : s'.c = s.c) (e2 : s'.pl = s.pl) (e3 : s'.mp = s.mp) (e4 : s'.wp = s.wp) (e5 : s'.gv = s.gv) (e6 : s'.given = s.given) (e7 : s'.mem = s.mem) (e8 : s'.ward = s.ward)
    (ho : M' p = some (.cells s'.row 73)) (hl : lab' p = 4) (hr : Row M' lab' 5 74 1 s'.tv s'.tp.length (ptrs s'.tp)) (he : ∀ (t p' : Nat), s'.tp[t]? = some p' → IsThr M' lab' t p' (s'.thr t)) : Mach0 M' lab' p s' := by
  obtain ⟨_, _, h1, h2, h3, h4, h5, h6, h7, h8, h9, _, _, h12⟩ := hM
  obtain ⟨m1, m2⟩ := h4.keep h5 hK (by omega)
  obtain ⟨w1, w2⟩ := h7.keep h8 hK (by omega)
  obtain ⟨p1, p2⟩ := hK.get h2 h3 (by omega)
  refine ⟨ho, hl, ?_, ?_, ?_, ?_, ?_, ?_, ?_, ?_, ?_, hr, he, ?_⟩
  · rw [e1]; exact h1
  · rw [e1, e2]; exact p1
  · rw [e2]; exact p2
  · rw [e3, e7]; exact m1
  · rw [e3, e7]; exact m2
  · rw [e1, e7]; exact h6
  · rw [e4, e8]; exact w1
  · rw [e4, e8]; exact w2
  · rw [e1, e8]; exact h9
  · rw [e5, e6]; exact h12.keep hK (by omega)
theorem mPlan_eq (h : Has σ M w) (hM : Mach M lab p s) : Calls Tryz.prog 24 #[.pointer (some ⟨p, 0, none⟩)] w fun r w' => r = .returned (.pointer (some ⟨s.pl, 0, none⟩)) ∧ Has σ M w' := by
  have c0 : w.cell? ⟨p, 0, none⟩ = some (.pointer (some ⟨s.pl, 0, none⟩)) := h.cell hM.obj 0
  go_enter Tryz.func24, Tryz.ntmps24
  go_wp2
  go_ret
  exact ⟨rfl, h⟩
theorem mMem_eq (h : Has σ M w) (hM : Mach M lab p s) : Calls Tryz.prog 26 #[.pointer (some ⟨p, 0, none⟩)] w fun r w' => r = .returned (.pointer (some ⟨s.mp, 0, none⟩)) ∧ Has σ M w' := by
  have c1 : w.cell? ⟨p, 1, none⟩ = some (.pointer (some ⟨s.mp, 0, none⟩)) := h.cell hM.obj 1
  go_enter Tryz.func26, Tryz.ntmps26
  go_wp2
  go_ret
  exact ⟨rfl, h⟩
theorem fld0 (c : Nat → Int) (w : World) : (Instr.field 29 (.agg (ints .i64 14 c)) 0).run Tryz.prog w = .ok (.int .i64 (c 0)) w := by
  rw [ints14_lit]
  kernel_rfl
/-- Clock -/
def MachS.clock (s : MachS) (l : Int) : Int := if 0 ≤ l ∧ l < s.c 0 then (s.clk l.toNat : Nat) else 0
/-- Fault -/
def MachS.bad (s : MachS) : Bool := s.fault || (s.mem.flt || decide (0 < s.ward.slips))
end
end Go.Proofs.YtlpkimpdeeiaaaaGreat
