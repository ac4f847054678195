/- Law 21, MachineApart: what a step does; document's First and Same. -/
import Derived.Test.YtnknlleflpkijaaMachT
namespace Go.Proofs.Ytnknlleflpkijaa
open Go.RowKit
set_option linter.unusedVariables false
set_option linter.unusedSimpArgs false
set_option linter.unnecessarySimpa false
structure ActS where
  t : Int
  kind : Int
  at_ : Int
  n : Int
  off : Bool
def ActS.row (a : ActS) : Array Value := #[.int .i64 a.t, .int .i64 a.kind, .int .i64 a.at_, .int .u64 a.n, .bool a.off]
def encA (a : ActS) : List Value := [.int .i64 a.t, .int .i64 a.kind, .int .i64 a.at_, .int .u64 a.n, .bool a.off]
/-- What the memory is behind a step. -/
def MemS.does (m : MemS) (a : ActS) : MemS := if Int.tmod a.kind 2 == 0 then m.store a.at_ a.n else m.at_ a.at_
set_option maxHeartbeats 1000000 in
theorem apart_eq {σ w : World} {K M : Mm} {lab : Nat → Nat} {p : Nat} {s : MachS} (h : Has σ M w) (hM : Mach M lab p s) (hB : Base K M lab) {ba : Nat} {a : ActS} (hb : K ba = some (.cells a.row 35)) (t : Int) (hb1 : s.mem.acc < 1000000000) (hb2 : s.mem.wr < 1000000000) :
    Calls Try.prog 16 #[.pointer (some ⟨p, 0, none⟩), .int .i64 t, .pointer (some ⟨ba, 0, none⟩)] w fun r w' => r = .returned (.tuple #[]) ∧ ∃ M2 lab2 s2, Has σ M2 w' ∧ Base K M2 lab2 ∧ Mach M2 lab2 p s2 ∧ s2 = { s with mem := s.mem.does a } := by
  have hbm := hB.le _ _ hb
  have d1 : a.row[1]? = some (.int .i64 a.kind) := rfl
  have d2 : a.row[2]? = some (.int .i64 a.at_) := rfl
  have d3 : a.row[3]? = some (.int .u64 a.n) := rfl
  have ML := Lib.hid (fun (w : World) (h : Has σ M w) => mMem_eq h hM)
  have LD := Lib.hid (fun (w : World) (h : Has σ M w) => memLoad_eq h hM.mem hb1 a.at_)
  have ST := Lib.hid (fun (w : World) (h : Has σ M w) => memStore_eq h hM.mem hb1 hb2 a.at_ a.n)
  have KL := hB.le
  have EL := Lib.hid (hM.load hB a.at_ rfl)
  have ES := Lib.hid (hM.store hB a.at_ a.n)
  clear hM hb1 hb2
  cases hk : (Int.tmod a.kind 2 == 0)
  · have E : Hid (s.mem.does a = s.mem.at_ a.at_) := by show _ = _; unfold MemS.does; rw [hk]; rfl
    have KE : K.le (M.upd s.mp (.cells (s.mem.at_ a.at_).cells 98)) := EL.out.2.le
    clear ES ST hB
    generalize a.row = row at hb hbm d1 d2 d3
    generalize M.upd s.mp _ = M2 at LD EL KE
    go_enter Try.func16, Try.ntmps16
    go_upto_region 2 with (first
      | (with_reducible show wpList _ _ _ ({ dst := _, op := Op.load 3 _, type := _, pos := _, after := _, guard := _ } :: _) _ _; refine wpList_load1_has h rfl 3 _ rfl rfl hbm d1 Try.underlying3 rfl ?_))
    refine wp_region_held_drew (S := Has σ (K)) (by kernel_rfl) (h.drew.le KL) (fun hHeld => ?_)
    refine wpAnyH_take (i := 0) (v := ?_) rfl (by kernel_rfl) (by kernel_rfl) (by kernel_rfl) (fun _ _ _ h => h) (Or.inl ⟨by rfl, ?_⟩) hHeld ?_
    rotate_left
    · (intro wz _; go_simp; try with_reducible rfl)
    try simp only [List.getElem_toArray, List.getElem_cons_succ, List.getElem_cons_zero, Act.put, List.setIfInBounds_toArray, List.set_cons_zero, List.set_cons_succ]
    refine wpAnyH_take (i := 2) (v := ?_) rfl (by kernel_rfl) (by kernel_rfl) (by kernel_rfl) (fun _ _ _ h => h) (Or.inl ⟨by rfl, ?_⟩) hHeld ?_
    rotate_left
    · (intro wz _; go_simp; try with_reducible rfl)
    try simp only [List.getElem_toArray, List.getElem_cons_succ, List.getElem_cons_zero, Act.put, List.setIfInBounds_toArray, List.set_cons_zero, List.set_cons_succ]
    refine wpAnyH_take (i := 3) (v := _) rfl (by kernel_rfl) (by kernel_rfl) (by kernel_rfl) (fun _ _ _ h => h) (yields_load1 rfl 3 _ rfl rfl hb d2 Try.underlying3 rfl) hHeld ?_
    try simp only [List.getElem_toArray, List.getElem_cons_succ, List.getElem_cons_zero, Act.put, List.setIfInBounds_toArray, List.set_cons_zero, List.set_cons_succ]
    replace h := h.drew
    generalize w.drew = w1 at h hHeld ⊢
    clear w
    obtain ⟨w, rfl⟩ : ∃ q : World, q = w1 := ⟨_, rfl⟩
    refine wpAnyH_ready (rs := [1]) (by kernel_rfl) (by simp) ?_
    refine AllReadyH.cons rfl (fun K hK => ?_) AllReadyH.nil
    (go_simp; go_wp2_with (go_at_call 12; refine (ML.out _ h).mono ?_; clear h; rintro _ w ⟨rfl, h⟩))
    refine hK.out _ _ (h.le KL) (fun hHeld => ?_)
    clear hK K
    try simp only [Act.put, List.setIfInBounds_toArray, List.set_cons_zero, List.set_cons_succ]
    refine wpAnyH_ready (rs := [4]) (by kernel_rfl) (by simp) ?_
    refine AllReadyH.cons rfl (fun K hK => ?_) AllReadyH.nil
    (go_simp; go_wp2_with (go_at_call 18; refine (LD.out _ h).mono ?_; clear h; rintro _ w ⟨rfl, h⟩))
    refine hK.out _ _ (h.le KE) (fun hHeld => ?_)
    clear hK K
    try simp only [Act.put, List.setIfInBounds_toArray, List.set_cons_zero, List.set_cons_succ]
    refine wpAnyH_done (by kernel_rfl) ?_ _
    go_wp2
    go_end0
    exact ⟨rfl, M2, lab, _, h, EL.out.2, EL.out.1, by rw [E.out]⟩
  · have E : Hid (s.mem.does a = s.mem.store a.at_ a.n) := by show _ = _; unfold MemS.does; rw [hk]; rfl
    have KE : K.le (storeM M s.mp s.mem a.at_ a.n) := ES.out.2.le
    clear EL LD hB
    generalize a.row = row at hb hbm d1 d2 d3
    generalize storeM M s.mp s.mem a.at_ a.n = M2 at ST ES KE
    go_enter Try.func16, Try.ntmps16
    go_upto_region 1 with (first
      | (with_reducible show wpList _ _ _ ({ dst := _, op := Op.load 3 _, type := _, pos := _, after := _, guard := _ } :: _) _ _; refine wpList_load1_has h rfl 3 _ rfl rfl hbm d1 Try.underlying3 rfl ?_))
    refine wp_region_held_drew (S := Has σ (K)) (by kernel_rfl) (h.drew.le KL) (fun hHeld => ?_)
    refine wpAnyH_take (i := 0) (v := ?_) rfl (by kernel_rfl) (by kernel_rfl) (by kernel_rfl) (fun _ _ _ h => h) (Or.inl ⟨by rfl, ?_⟩) hHeld ?_
    rotate_left
    · (intro wz _; go_simp; try with_reducible rfl)
    try simp only [List.getElem_toArray, List.getElem_cons_succ, List.getElem_cons_zero, Act.put, List.setIfInBounds_toArray, List.set_cons_zero, List.set_cons_succ]
    refine wpAnyH_take (i := 2) (v := ?_) rfl (by kernel_rfl) (by kernel_rfl) (by kernel_rfl) (fun _ _ _ h => h) (Or.inl ⟨by rfl, ?_⟩) hHeld ?_
    rotate_left
    · (intro wz _; go_simp; try with_reducible rfl)
    try simp only [List.getElem_toArray, List.getElem_cons_succ, List.getElem_cons_zero, Act.put, List.setIfInBounds_toArray, List.set_cons_zero, List.set_cons_succ]
    refine wpAnyH_take (i := 3) (v := _) rfl (by kernel_rfl) (by kernel_rfl) (by kernel_rfl) (fun _ _ _ h => h) (yields_load1 rfl 3 _ rfl rfl hb d2 Try.underlying3 rfl) hHeld ?_
    try simp only [List.getElem_toArray, List.getElem_cons_succ, List.getElem_cons_zero, Act.put, List.setIfInBounds_toArray, List.set_cons_zero, List.set_cons_succ]
    refine wpAnyH_take (i := 4) (v := ?_) rfl (by kernel_rfl) (by kernel_rfl) (by kernel_rfl) (fun _ _ _ h => h) (Or.inl ⟨by rfl, ?_⟩) hHeld ?_
    rotate_left
    · (intro wz _; go_simp; try with_reducible rfl)
    try simp only [List.getElem_toArray, List.getElem_cons_succ, List.getElem_cons_zero, Act.put, List.setIfInBounds_toArray, List.set_cons_zero, List.set_cons_succ]
    refine wpAnyH_take (i := 5) (v := _) rfl (by kernel_rfl) (by kernel_rfl) (by kernel_rfl) (fun _ _ _ h => h) (yields_load1 rfl 33 _ rfl rfl hb d3 Try.underlying33 rfl) hHeld ?_
    try simp only [List.getElem_toArray, List.getElem_cons_succ, List.getElem_cons_zero, Act.put, List.setIfInBounds_toArray, List.set_cons_zero, List.set_cons_succ]
    replace h := h.drew
    generalize w.drew = w1 at h hHeld ⊢
    clear w
    obtain ⟨w, rfl⟩ : ∃ q : World, q = w1 := ⟨_, rfl⟩
    refine wpAnyH_ready (rs := [1]) (by kernel_rfl) (by simp) ?_
    refine AllReadyH.cons rfl (fun K hK => ?_) AllReadyH.nil
    (go_simp; go_wp2_with (go_at_call 12; refine (ML.out _ h).mono ?_; clear h; rintro _ w ⟨rfl, h⟩))
    refine hK.out _ _ (h.le KL) (fun hHeld => ?_)
    clear hK K
    try simp only [Act.put, List.setIfInBounds_toArray, List.set_cons_zero, List.set_cons_succ]
    refine wpAnyH_ready (rs := [6]) (by kernel_rfl) (by simp) ?_
    refine AllReadyH.cons rfl (fun K hK => ?_) AllReadyH.nil
    (go_simp; go_wp2_with (go_at_call 17; refine (ST.out _ h).mono ?_; clear h; rintro _ w ⟨rfl, h⟩))
    refine hK.out _ _ (h.le KE) (fun hHeld => ?_)
    clear hK K
    try simp only [Act.put, List.setIfInBounds_toArray, List.set_cons_zero, List.set_cons_succ]
    refine wpAnyH_done (by kernel_rfl) ?_ _
    go_wp2
    go_end0
    exact ⟨rfl, M2, lab, _, h, ES.out.2, ES.out.1, by rw [E.out]⟩
end Go.Proofs.Ytnknlleflpkijaa
