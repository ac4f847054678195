/- Walks of layer 6 (cells): what is loaded and stored; copies. -/
import Derived.Test.YtlpkimpdeeiaaaaGreatCells
namespace Go.Proofs.YtlpkimpdeeiaaaaGreat
open Go.RowKit
set_option linter.unusedVariables false
set_option linter.unusedSimpArgs false
set_option linter.unnecessarySimpa false
def MemS.load (s : MemS) (a : Int) : Int := if s.hit a then s.f a.toNat else 0
def MemS.store (s : MemS) (a : Int) (v : Int) : MemS := if s.hit a then { s.at_ a with f := upd s.f a.toNat v, wr := s.wr + 1 } else s.at_ a
theorem MemS.hit_iff {s : MemS} {a : Int} : s.hit a = true ↔ 0 ≤ a ∧ a < s.N := by unfold MemS.hit; simp
theorem MemS.store_wb (s : MemS) (a v : Int) : (s.store a v).wb = s.wb := by
  unfold MemS.store MemS.at_
  split <;> rfl
theorem IsMem.at_ {M : Mm} {p : Nat} {s : MemS} (h : IsMem M p s) (a : Int) : IsMem (M.upd p (.cells (s.at_ a).cells 97)) p (s.at_ a) := h.set (MemS.at_wb s a) (MemS.at_row s a)
/-- What a store leaves of what is known. -/
def storeM (M : Mm) (p : Nat) (s : MemS) (a v : Int) : Mm := if s.hit a then (M.upd s.wb (s.store a v).row).upd p (.cells (s.store a v).cells 97) else M.upd p (.cells (s.at_ a).cells 97)
theorem IsMem.store {M : Mm} {p : Nat} {s : MemS} (h : IsMem M p s) (a v : Int) : IsMem (storeM M p s a v) p (s.store a v) := by
  unfold storeM
  split
  · rename_i hh
    refine ⟨Mm.upd_same _ _ _, ?_⟩
    rw [MemS.store_wb, Mm.upd_ne h.ne.symm]
    exact Mm.upd_same _ _ _
  · rename_i hh
    have e : s.store a v = s.at_ a := if_neg hh
    rw [e]
    exact h.at_ a
theorem Mm.upd3 (M : Mm) (p b : Nat) (x y z : Obj) : ((M.upd p x).upd b y).upd p z = (M.upd b y).upd p z := by
  funext c
  unfold Mm.upd
  by_cases h : c = p
  · rw [if_pos h, if_pos h]
  · rw [if_neg h, if_neg h]
    split <;> rfl
section
variable {σ w : World} {M : Mm} {p : Nat} {s : MemS}
theorem ints_one (k : IntKind) (n : Nat) (c : Nat → Int) : ∀ v ∈ (ints k n c).toList, v.oneCell' = true := by
  intro v hv
  unfold ints at hv
  simp at hv
  obtain ⟨i, _, rfl⟩ := hv
  rfl
theorem info1_u64 : (Tryz.prog.info? 46).map (·.size) = some 1 := by kernel_rfl
set_option maxRecDepth 20000 in
set_option maxHeartbeats 1000000 in
theorem memWords_eq (h : Has σ M w) (hM : IsMem M p s) (hN : s.N ≤ 10000) : Calls Tryz.prog 27 #[.pointer (some ⟨p, 0, none⟩)] w fun r w' => ∃ b M', r = .returned (.slice (some ⟨b, 0, none⟩) s.N s.N) ∧ Has σ M' w' ∧ M.le M' ∧ M b = none ∧ M' b = some s.row := by
  have hp := hM.obj
  have hr := hM.row
  have e0 : s.cells[0]? = some (.slice (some ⟨s.wb, 0, none⟩) s.N s.N) := rfl
  have MK := mk_u64 s.N (by omega)
  unfold MemS.row at hr
  have ER : Hid (s.row = .cells (ints .u64 s.N s.f) 46) := rfl
  clear hM
  go_enter Tryz.func27, Tryz.ntmps27
  go_upto_region 4 with (first
    | (with_reducible show wpList _ _ _ ({ dst := _, op := Op.load 24 _, type := _, pos := _, after := _, guard := _ } :: _) _ _; refine wpList_load1_has h rfl 24 _ rfl rfl hp e0 Tryz.underlying24 rfl ?_))
  clear MK
  obtain ⟨M1, hbx, hle, hb, hn⟩ := h.box (.cells (ints .u64 s.N fun _ => 0) 46)
  generalize w.alloc _ = wx at hbx ⊢
  generalize w.heap.size = b at hb hn ⊢
  clear h
  try clear w
  have h := hbx
  clear hbx
  obtain ⟨w, rfl⟩ : ∃ x : World, x = wx := ⟨_, rfl⟩
  replace hp := hle _ _ hp
  replace hr := hle _ _ hr
  go_upto_region 5 with (first
    | (with_reducible show wpList _ _ _ ({ dst := _, op := Op.load 24 _, type := _, pos := _, after := _, guard := _ } :: _) _ _; refine wpList_load1_has h rfl 24 _ rfl rfl hp e0 Tryz.underlying24 rfl ?_)
    | ((with_reducible show wpList _ _ _ ({ dst := _, op := Op.call { callee := .builtin .copy, args := _, argTypes := _ }, type := _, pos := _, after := _, guard := _ } :: _) _ _); refine wpList_copy_whole h rfl _ _ 24 24 rfl rfl rfl Tryz.underlying24 info1_u64 hb hr (ints_size _ _ _) (ints_size _ _ _) (ints_one _ _ _) ?_; clear h; intro w h))
  go_wp2
  go_ret
  exact ⟨b, _, rfl, h, Mm.le_upd hle hn _, hn, by rw [ER.out]; exact Mm.upd_same _ _ _⟩
end
def memNew (wb N : Nat) (f : Nat → Int) : MemS := ⟨wb, N, f, 0, 0, 0, false, false⟩
set_option maxHeartbeats 1000000 in
theorem cellsNew_eq {σ w : World} {M : Mm} (h : Has σ M w) (N : Nat) (h1 : 1 ≤ N) (h2 : N ≤ 4096) : Calls Tryz.prog 39 #[.int .i64 N] w fun r w' => ∃ p wb M', r = .returned (.pointer (some ⟨p, 0, none⟩)) ∧ Has σ M' w' ∧ M.le M' ∧ M p = none ∧ M wb = none ∧ IsMem M' p (memNew wb N fun _ => 0) := by
  have g1 : decide ((N : Int) < 1) = false := decide_eq_false (by omega)
  have g2 : decide ((4096 : Int) < (N : Int)) = false := decide_eq_false (by omega)
  have MK := mk_u64 N (by omega)
  clear h1 h2
  go_enter Tryz.func39, Tryz.ntmps39
  go_wp2
  go_ret
  have h1 := h.alloc (.cells (ints .u64 N fun _ => 0) 46)
  have n1 := h.fresh
  have h2 := h1.alloc (.cells (memNew w.heap.size N fun _ => 0).cells 97)
  have n2 := h1.fresh
  have hsz : (w.alloc (.cells (ints .u64 N fun _ => 0) 46)).heap.size = w.heap.size + 1 := by simp
  rw [hsz] at h2 n2
  refine ⟨_, w.heap.size, _, rfl, h2, Mm.le_trans (Mm.le_upd' n1 _) (Mm.le_upd' n2 _), Mm.none_of (Mm.le_upd' n1 _) n2, n1, ⟨Mm.upd_same _ _ _, ?_⟩⟩
  exact (Mm.upd_ne (Mm.ne_of n2 (Mm.upd_same _ _ _))).trans (Mm.upd_same _ _ _)
set_option maxRecDepth 20000 in
set_option maxHeartbeats 1000000 in
theorem cellsOf_eq {σ w : World} {M : Mm} (h : Has σ M w) (N b : Nat) (f : Nat → Int) (h1 : 1 ≤ N) (h2 : N ≤ 4096) (hb : M b = some (.cells (ints .u64 N f) 46)) : Calls Tryz.prog 19 #[.slice (some ⟨b, 0, none⟩) N N] w fun r w' => ∃ p wb M', r = .returned (.pointer (some ⟨p, 0, none⟩)) ∧ Has σ M' w' ∧ M.le M' ∧ M p = none ∧ M wb = none ∧ IsMem M' p (memNew wb N f) := by
  have CN := Lib.hid (cellsNew_eq h N h1 h2)
  clear h1 h2
  go_enter Tryz.func19, Tryz.ntmps19
  go_upto_region 3 with (first
    | (go_at_call 39; refine CN.out.mono ?_; clear h; rintro r w ⟨p, wb, M1, rfl, h, hle, hp, hw, hI⟩))
  have e0 : (memNew wb N fun _ => 0).cells[0]? = some (.slice (some ⟨wb, 0, none⟩) N N) := rfl
  have ho := hI.obj
  have hne := Lib.hid hI.ne
  have hr : M1 wb = some (.cells (ints .u64 N fun _ => 0) 46) := hI.row
  replace hb := hle _ _ hb
  have HO := Lib.hid ho
  clear hI CN
  go_wp2_with (first
    | (with_reducible show wpList _ _ _ ({ dst := _, op := Op.load 24 _, type := _, pos := _, after := _, guard := _ } :: _) _ _; refine wpList_load1_has h rfl 24 _ rfl rfl ho e0 Tryz.underlying24 rfl ?_)
    | ((with_reducible show wpList _ _ _ ({ dst := _, op := Op.call { callee := .builtin .copy, args := _, argTypes := _ }, type := _, pos := _, after := _, guard := _ } :: _) _ _); refine wpList_copy_whole h rfl _ _ 24 24 rfl rfl rfl Tryz.underlying24 info1_u64 hr hb (ints_size _ _ _) (ints_size _ _ _) (ints_one _ _ _) ?_; clear h; intro w h))
  go_ret
  exact ⟨p, wb, _, rfl, h, Mm.le_upd hle hw _, hp, hw, ⟨(Mm.upd_ne hne.out).trans HO.out, Mm.upd_same _ _ _⟩⟩
end Go.Proofs.YtlpkimpdeeiaaaaGreat
