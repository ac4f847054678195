/- Walks of layer 6 (cells): what is loaded and stored; copies. -/
import Derived.Test.YtmfpablmmjaccaaGreatDoorCells
namespace Go.Proofs.YtmfpablmmjaccaaGreatDoor
open Go.RowKit
set_option linter.unusedVariables false
set_option linter.unusedSimpArgs false
set_option linter.unnecessarySimpa false
def MemS.load (s : MemS) (a : Int) : Int := if s.hit a then s.f a.toNat else 0
def MemS.store (s : MemS) (a : Int) (v : Int) : MemS := if s.hit a then { s.at_ a with f := upd s.f a.toNat v, wr := s.wr + 1 } else s.at_ a
theorem MemS.hit_iff {s : MemS} {a : Int} : s.hit a = true ↔ 0 ≤ a ∧ a < s.N := by unfold MemS.hit; simp
theorem MemS.store_wb (s : MemS) (a v : Int) : (s.store a v).wb = s.wb := by
  unfold MemS.store MemS.at_
  split <;> rfl
theorem IsMem.at_ {M : Mm} {p : Nat} {s : MemS} (h : IsMem M p s) (a : Int) : IsMem (M.upd p (.cells (s.at_ a).cells 80)) p (s.at_ a) := h.set (MemS.at_wb s a) (MemS.at_row s a)
set_option maxHeartbeats 1000000 in
theorem memLoad_eq {σ w : World} {M : Mm} (h : Has σ M w) {p : Nat} {s : MemS} (hM : IsMem M p s) (hb : s.acc < 1000000000) (a : Int) :
    Calls Tryz.prog 117 #[.pointer (some ⟨p, 0, none⟩), .int .i64 a] w fun r w' => r = .returned (.int .u64 (s.load a)) ∧ Has σ (M.upd p (.cells (s.at_ a).cells 80)) w' := by
  have AT := Lib.hid (memAt_eq h hM hb a)
  have HM := Lib.hid (hM.at_ a)
  cases hh : s.hit a
  · have R : Hid (s.load a = 0) := by show _ = _; unfold MemS.load; rw [hh]; rfl
    rw [hh] at AT
    clear hh hb hM
    generalize M.upd p _ = M1 at AT HM ⊢
    go_enter Tryz.func117, Tryz.ntmps117
    go_wp2_with (first
      | (go_at_call 131; refine AT.out.mono ?_; clear h; rintro r w ⟨rfl, h⟩))
    go_ret
    exact ⟨by rw [R.out]; rfl, h⟩
  · obtain ⟨h0, h1⟩ := MemS.hit_iff.1 hh
    have R : Hid (s.load a = s.f a.toNat) := by show _ = _; unfold MemS.load; rw [hh]; rfl
    rw [hh] at AT
    obtain ⟨k, rfl⟩ : ∃ k : Nat, a = k := ⟨a.toNat, by omega⟩
    rw [Int.toNat_natCast] at R
    have hk : k < s.N := by omega
    have HC : Hid (∀ w', Has σ (M.upd p (.cells (s.at_ k).cells 80)) w' → w'.cell? ⟨p, 0, none⟩ = some (.slice (some ⟨s.wb, 0, none⟩) s.N s.N) ∧ w'.cell? ⟨s.wb, k, none⟩ = some (.int .u64 (s.f k))) := fun w' h => by
      have e0 : (s.at_ k).cells[0]? = some (.slice (some ⟨s.wb, 0, none⟩) s.N s.N) := by unfold MemS.at_; split <;> rfl
      have hr := HM.out.row
      rw [MemS.at_wb, MemS.at_row] at hr
      exact ⟨(h.cell HM.out.obj 0).trans e0, (h.cell hr k).trans (ints_get hk)⟩
    clear hh hb hM HM
    generalize M.upd p _ = M1 at AT HC ⊢
    generalize s.f k = v at *
    generalize s.wb = wb at *
    generalize s.N = N at *
    go_enter Tryz.func117, Tryz.ntmps117
    go_upto_region 3 with (first
      | (go_at_call 131; refine AT.out.mono ?_; clear h; rintro r w ⟨rfl, h⟩))
    obtain ⟨c0, c1⟩ := HC.out _ h
    go_wp2
    go_ret
    exact ⟨by rw [R.out]; rfl, h⟩
/-- What a store leaves of what is known. -/
def storeM (M : Mm) (p : Nat) (s : MemS) (a v : Int) : Mm := if s.hit a then (M.upd s.wb (s.store a v).row).upd p (.cells (s.store a v).cells 80) else M.upd p (.cells (s.at_ a).cells 80)
theorem IsMem.store {M : Mm} {p : Nat} {s : MemS} (h : IsMem M p s) (a v : Int) : IsMem (storeM M p s a v) p (s.store a v) := by
  unfold storeM
  split
  · rename_i hh
    refine ⟨Mm.upd_same _ _ _, ?_⟩
    rw [MemS.store_wb, Mm.upd_ne h.ne.symm]
    exact Mm.upd_same _ _ _
  · rename_i hh
    have e : s.store a v = s.at_ a := if_neg hh
    rw [e]
    exact h.at_ a
theorem Mm.upd3 (M : Mm) (p b : Nat) (x y z : Obj) : ((M.upd p x).upd b y).upd p z = (M.upd b y).upd p z := by
  funext c
  unfold Mm.upd
  by_cases h : c = p
  · rw [if_pos h, if_pos h]
  · rw [if_neg h, if_neg h]
    split <;> rfl
set_option maxHeartbeats 1000000 in
theorem memStore_eq {σ w : World} {M : Mm} (h : Has σ M w) {p : Nat} {s : MemS} (hM : IsMem M p s) (hb : s.acc < 1000000000) (hb2 : s.wr < 1000000000) (a v : Int) :
    Calls Tryz.prog 205 #[.pointer (some ⟨p, 0, none⟩), .int .i64 a, .int .u64 v] w fun r w' => r = .returned (.tuple #[]) ∧ Has σ (storeM M p s a v) w' := by
  have AT := Lib.hid (memAt_eq h hM hb a)
  have HM := Lib.hid (hM.at_ a)
  cases hh : s.hit a
  · have R : Hid (storeM M p s a v = M.upd p (.cells (s.at_ a).cells 80)) := by show _ = _; unfold storeM; rw [hh]; rfl
    rw [R.out]
    rw [hh] at AT
    clear hh hb hb2 hM R
    generalize M.upd p _ = M1 at AT HM ⊢
    go_enter Tryz.func205, Tryz.ntmps205
    go_wp2_with (first
      | (go_at_call 131; refine AT.out.mono ?_; clear h; rintro r w ⟨rfl, h⟩))
    go_end0
    exact ⟨rfl, h⟩
  · obtain ⟨h0, h1⟩ := MemS.hit_iff.1 hh
    have hne := hM.ne
    have hrow := hM.row
    have R : Hid (storeM M p s a v = (M.upd s.wb (s.store a v).row).upd p (.cells (s.store a v).cells 80)) := by show _ = _; unfold storeM; rw [hh]; rfl
    rw [R.out]
    have A1 : Hid (s.at_ a = { s with acc := s.acc + 1, last := a, named := true }) := by show _ = _; unfold MemS.at_; rw [hh]; rfl
    have S1 : Hid (s.store a v = { s with acc := s.acc + 1, last := a, named := true, f := upd s.f a.toNat v, wr := s.wr + 1 }) := by show _ = _; unfold MemS.store; rw [hh, if_pos rfl, A1.out]
    rw [hh] at AT
    rw [A1.out] at AT HM
    rw [S1.out]
    clear A1 S1 R hh hM
    obtain ⟨k, rfl⟩ : ∃ k : Nat, a = k := ⟨a.toNat, by omega⟩
    rw [Int.toNat_natCast]
    obtain ⟨wb, N, f, acc, wr, last, named, flt⟩ := s
    simp only at *
    have hk : k < N := by omega
    have w1 : IntKind.i64.wrap ((wr : Int) + 1) = ((wr + 1 : Nat) : Int) := by rw [show (wr : Int) + 1 = ((wr + 1 : Nat) : Int) by omega]; exact IntWalk.i64_in _ (by omega)
    clear hb hb2 h0 h1
    go_enter Tryz.func205, Tryz.ntmps205
    go_upto_region 1 with (first
      | (go_at_call 131; refine AT.out.mono ?_; clear h; rintro r w ⟨rfl, h⟩))
    have hp := HM.out.obj
    have hr : M.upd p (.cells (MemS.cells ⟨wb, N, f, acc + 1, wr, k, true, flt⟩) 80) wb = some (.cells (ints .u64 N f) 37) := HM.out.row
    clear AT HM
    generalize hM1 : M.upd p _ = M1 at h hp hr
    have c0 : w.cell? ⟨p, 0, none⟩ = some (.slice (some ⟨wb, 0, none⟩) N N) := h.cell hp 0
    have c2 : w.cell? ⟨p, 2, none⟩ = some (.int .i64 (wr : Nat)) := h.cell hp 2
    have f2 := h.free hp 2
    have ck : w.cell? ⟨wb, k, none⟩ = some (.int .u64 (f k)) := (h.cell hr k).trans (ints_get hk)
    have fk := h.free hr k
    have HP := Lib.hid hp
    have HR := Lib.hid hr
    have HN := Lib.hid hne
    have hne' : ¬ wb = p := fun e => hne e.symm
    clear hp hr
    go_wp2
    go_end0
    refine ⟨rfl, ?_⟩
    have k1 := (h.setCell HR.out k (.int .u64 v)).setCell ((Mm.upd_ne HN.out).trans HP.out) 2 (.int .i64 ((wr : Int) + 1))
    rw [ints_set, ← hM1, Mm.upd3] at k1
    exact k1

section
variable {σ w : World} {M : Mm} {p : Nat} {s : MemS}
theorem memAcc_eq (h : Has σ M w) (hM : IsMem M p s) : Calls Tryz.prog 69 #[.pointer (some ⟨p, 0, none⟩)] w fun r w' => r = .returned (.int .i64 (s.acc : Nat)) ∧ Has σ M w' := by
  have c1 : w.cell? ⟨p, 1, none⟩ = some (.int .i64 (s.acc : Nat)) := h.cell hM.obj 1
  go_enter Tryz.func69, Tryz.ntmps69
  go_wp2
  go_ret
  exact ⟨rfl, h⟩
theorem memWr_eq (h : Has σ M w) (hM : IsMem M p s) : Calls Tryz.prog 70 #[.pointer (some ⟨p, 0, none⟩)] w fun r w' => r = .returned (.int .i64 (s.wr : Nat)) ∧ Has σ M w' := by
  have c2 : w.cell? ⟨p, 2, none⟩ = some (.int .i64 (s.wr : Nat)) := h.cell hM.obj 2
  go_enter Tryz.func70, Tryz.ntmps70
  go_wp2
  go_ret
  exact ⟨rfl, h⟩
theorem memLast_eq (h : Has σ M w) (hM : IsMem M p s) : Calls Tryz.prog 79 #[.pointer (some ⟨p, 0, none⟩)] w fun r w' => r = .returned (.tuple #[.int .i64 s.last, .bool s.named]) ∧ Has σ M w' := by
  have hp := hM.obj
  have e3 : s.cells[3]? = some (.int .i64 s.last) := rfl
  have e4 : s.cells[4]? = some (.bool s.named) := rfl
  clear hM
  go_enter Tryz.func79, Tryz.ntmps79
  go_upto_region 3 with (fail)
  refine wp_region_class (Has σ M) (by kernel_rfl) (by kernel_rfl) h.drew ?_
  clear h
  repeat (first
    | go_big_quiet_skip
    | (go_big_quiet_want; first
      | (refine quiet_load_has 3 _ rfl rfl hp e3 Tryz.underlying3 rfl ?_; simp only [Act.put, List.setIfInBounds_toArray, List.set_cons_zero, List.set_cons_succ]; go_big_quiet_on)
      | (refine quiet_load_has 4 _ rfl rfl hp e4 Tryz.underlying4 rfl ?_; simp only [Act.put, List.setIfInBounds_toArray, List.set_cons_zero, List.set_cons_succ]; go_big_quiet_on)
      | (go_big_quiet_op; first | go_big_quiet_on | go_big_quiet_call (first | with_reducible exact fun _ => rfl))))
  refine wpQuiet_nil ?_
  try clear w
  intro w h
  go_wp2
  go_ret2
  exact ⟨rfl, h⟩
theorem ints_one (k : IntKind) (n : Nat) (c : Nat → Int) : ∀ v ∈ (ints k n c).toList, v.oneCell' = true := by
  intro v hv
  unfold ints at hv
  simp at hv
  obtain ⟨i, _, rfl⟩ := hv
  rfl
theorem info1_u64 : (Tryz.prog.info? 37).map (·.size) = some 1 := by kernel_rfl
set_option maxRecDepth 20000 in
set_option maxHeartbeats 1000000 in
theorem memWords_eq (h : Has σ M w) (hM : IsMem M p s) (hN : s.N ≤ 10000) : Calls Tryz.prog 11 #[.pointer (some ⟨p, 0, none⟩)] w fun r w' => ∃ b M', r = .returned (.slice (some ⟨b, 0, none⟩) s.N s.N) ∧ Has σ M' w' ∧ M.le M' ∧ M b = none ∧ M' b = some s.row := by
  have hp := hM.obj
  have hr := hM.row
  have e0 : s.cells[0]? = some (.slice (some ⟨s.wb, 0, none⟩) s.N s.N) := rfl
  have MK := mk_u64 s.N (by omega)
  unfold MemS.row at hr
  have ER : Hid (s.row = .cells (ints .u64 s.N s.f) 37) := rfl
  clear hM
  go_enter Tryz.func11, Tryz.ntmps11
  go_upto_region 4 with (first
    | (with_reducible show wpList _ _ _ ({ dst := _, op := Op.load 40 _, type := _, pos := _, after := _, guard := _ } :: _) _ _; refine wpList_load1_has h rfl 40 _ rfl rfl hp e0 Tryz.underlying40 rfl ?_))
  clear MK
  obtain ⟨M1, hbx, hle, hb, hn⟩ := h.box (.cells (ints .u64 s.N fun _ => 0) 37)
  generalize w.alloc _ = wx at hbx ⊢
  generalize w.heap.size = b at hb hn ⊢
  clear h
  try clear w
  have h := hbx
  clear hbx
  obtain ⟨w, rfl⟩ : ∃ x : World, x = wx := ⟨_, rfl⟩
  replace hp := hle _ _ hp
  replace hr := hle _ _ hr
  go_upto_region 5 with (first
    | (with_reducible show wpList _ _ _ ({ dst := _, op := Op.load 40 _, type := _, pos := _, after := _, guard := _ } :: _) _ _; refine wpList_load1_has h rfl 40 _ rfl rfl hp e0 Tryz.underlying40 rfl ?_)
    | ((with_reducible show wpList _ _ _ ({ dst := _, op := Op.call { callee := .builtin .copy, args := _, argTypes := _ }, type := _, pos := _, after := _, guard := _ } :: _) _ _); refine wpList_copy_whole h rfl _ _ 40 40 rfl rfl rfl Tryz.underlying40 info1_u64 hb hr (ints_size _ _ _) (ints_size _ _ _) (ints_one _ _ _) ?_; clear h; intro w h))
  go_wp2
  go_ret
  exact ⟨b, _, rfl, h, Mm.le_upd hle hn _, hn, by rw [ER.out]; exact Mm.upd_same _ _ _⟩
end
def memNew (wb N : Nat) (f : Nat → Int) : MemS := ⟨wb, N, f, 0, 0, 0, false, false⟩
set_option maxHeartbeats 1000000 in
theorem cellsNew_eq {σ w : World} {M : Mm} (h : Has σ M w) (N : Nat) (h1 : 1 ≤ N) (h2 : N ≤ 4096) : Calls Tryz.prog 38 #[.int .i64 N] w fun r w' => ∃ p wb M', r = .returned (.pointer (some ⟨p, 0, none⟩)) ∧ Has σ M' w' ∧ M.le M' ∧ M p = none ∧ M wb = none ∧ IsMem M' p (memNew wb N fun _ => 0) := by
  have g1 : decide ((N : Int) < 1) = false := decide_eq_false (by omega)
  have g2 : decide ((4096 : Int) < (N : Int)) = false := decide_eq_false (by omega)
  have MK := mk_u64 N (by omega)
  clear h1 h2
  go_enter Tryz.func38, Tryz.ntmps38
  go_wp2
  go_ret
  have h1 := h.alloc (.cells (ints .u64 N fun _ => 0) 37)
  have n1 := h.fresh
  have h2 := h1.alloc (.cells (memNew w.heap.size N fun _ => 0).cells 80)
  have n2 := h1.fresh
  have hsz : (w.alloc (.cells (ints .u64 N fun _ => 0) 37)).heap.size = w.heap.size + 1 := by simp
  rw [hsz] at h2 n2
  refine ⟨_, w.heap.size, _, rfl, h2, Mm.le_trans (Mm.le_upd' n1 _) (Mm.le_upd' n2 _), Mm.none_of (Mm.le_upd' n1 _) n2, n1, ⟨Mm.upd_same _ _ _, ?_⟩⟩
  exact (Mm.upd_ne (Mm.ne_of n2 (Mm.upd_same _ _ _))).trans (Mm.upd_same _ _ _)
set_option maxRecDepth 20000 in
set_option maxHeartbeats 1000000 in
theorem cellsOf_eq {σ w : World} {M : Mm} (h : Has σ M w) (N b : Nat) (f : Nat → Int) (h1 : 1 ≤ N) (h2 : N ≤ 4096) (hb : M b = some (.cells (ints .u64 N f) 37)) : Calls Tryz.prog 16 #[.slice (some ⟨b, 0, none⟩) N N] w fun r w' => ∃ p wb M', r = .returned (.pointer (some ⟨p, 0, none⟩)) ∧ Has σ M' w' ∧ M.le M' ∧ M p = none ∧ M wb = none ∧ IsMem M' p (memNew wb N f) := by
  have CN := Lib.hid (cellsNew_eq h N h1 h2)
  clear h1 h2
  go_enter Tryz.func16, Tryz.ntmps16
  go_upto_region 3 with (first
    | (go_at_call 38; refine CN.out.mono ?_; clear h; rintro r w ⟨p, wb, M1, rfl, h, hle, hp, hw, hI⟩))
  have e0 : (memNew wb N fun _ => 0).cells[0]? = some (.slice (some ⟨wb, 0, none⟩) N N) := rfl
  have ho := hI.obj
  have hne := Lib.hid hI.ne
  have hr : M1 wb = some (.cells (ints .u64 N fun _ => 0) 37) := hI.row
  replace hb := hle _ _ hb
  have HO := Lib.hid ho
  clear hI CN
  go_wp2_with (first
    | (with_reducible show wpList _ _ _ ({ dst := _, op := Op.load 40 _, type := _, pos := _, after := _, guard := _ } :: _) _ _; refine wpList_load1_has h rfl 40 _ rfl rfl ho e0 Tryz.underlying40 rfl ?_)
    | ((with_reducible show wpList _ _ _ ({ dst := _, op := Op.call { callee := .builtin .copy, args := _, argTypes := _ }, type := _, pos := _, after := _, guard := _ } :: _) _ _); refine wpList_copy_whole h rfl _ _ 40 40 rfl rfl rfl Tryz.underlying40 info1_u64 hr hb (ints_size _ _ _) (ints_size _ _ _) (ints_one _ _ _) ?_; clear h; intro w h))
  go_ret
  exact ⟨p, wb, _, rfl, h, Mm.le_upd hle hw _, hp, hw, ⟨(Mm.upd_ne hne.out).trans HO.out, Mm.upd_same _ _ _⟩⟩
end Go.Proofs.YtmfpablmmjaccaaGreatDoor
