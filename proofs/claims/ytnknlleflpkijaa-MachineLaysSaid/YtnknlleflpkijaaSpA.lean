/- Law 21, MachineSteps: what a step does. -/
import Derived.Test.YtnknlleflpkijaaMachE
import Derived.Test.YtnknlleflpkijaaApA
namespace Go.Proofs.Ytnknlleflpkijaa
open Go.RowKit
set_option linter.unusedVariables false
set_option linter.unusedSimpArgs false
set_option linter.unnecessarySimpa false
/-- The machine behind what an act does. -/
def MachS.does (s : MachS) (t : Nat) (lv : Int) (a : ActS) (gv : Value) : MachS :=
  if a.kind = 3 then { s with mem := (s.mem.at_ a.at_).at_ a.at_ }
  else if a.kind = 1 then { s with mem := s.mem.at_ a.at_ }
  else if a.kind = 2 then { s with mem := s.mem.store a.at_ a.n }
  else if a.kind = 4 then { s with thr := fun j => if j = t then (s.thr t).back [] else s.thr j }
  else if a.kind = 5 then s.dropped lv a.at_ gv
  else s
section
set_option maxHeartbeats 1000000 in
theorem steps1_0 {σ w : World} {K M : Mm} {lab : Nat → Nat} {p : Nat} {s : MachS} {ba : Nat} {a : ActS} (h : Has σ M w) (hM : Mach M lab p s) (hB : Base K M lab) (hb : K ba = some (.cells a.row 35)) (t : Int) (hk : a.kind = 0) : Calls Try.prog 25 #[.pointer (some ⟨p, 0, none⟩), .int .i64 t, .pointer (some ⟨ba, 0, none⟩)] w fun r w' => r = .returned (.tuple #[]) ∧ Has σ M w' := by
  have hbm := hB.le _ _ hb
  have d1 : a.row[1]? = some (.int .i64 a.kind) := rfl
  rw [hk] at d1
  clear hM hB hb hk
  generalize a.row = row at hbm d1
  go_enter Try.func25, Try.ntmps25
  go_wp2_with (first
    | (with_reducible show wpList _ _ _ ({ dst := _, op := Op.load 3 _, type := _, pos := _, after := _, guard := _ } :: _) _ _; refine wpList_load1_has h rfl 3 _ rfl rfl hbm d1 Try.underlying3 rfl ?_))
  go_end0
  exact ⟨rfl, h⟩
set_option maxHeartbeats 1000000 in
theorem steps1_1 {σ w : World} {K M : Mm} {lab : Nat → Nat} {p : Nat} {s : MachS} {ba : Nat} {a : ActS} (h : Has σ M w) (hM : Mach M lab p s) (hB : Base K M lab) (hb : K ba = some (.cells a.row 35)) (t : Int) (hk : a.kind = 1) (hb1 : s.mem.acc < 1000000000) : Calls Try.prog 25 #[.pointer (some ⟨p, 0, none⟩), .int .i64 t, .pointer (some ⟨ba, 0, none⟩)] w fun r w' => r = .returned (.tuple #[]) ∧ Has σ (M.upd s.mp (.cells (s.mem.at_ a.at_).cells 98)) w' := by
  have hbm := hB.le _ _ hb
  have d1 : a.row[1]? = some (.int .i64 a.kind) := rfl
  have d2 : a.row[2]? = some (.int .i64 a.at_) := rfl
  rw [hk] at d1
  have ML := Lib.hid (fun (w : World) (h : Has σ M w) => mMem_eq h hM)
  have LD := Lib.hid (fun (w : World) (h : Has σ M w) => memLoad_eq h hM.mem hb1 a.at_)
  have KL := hB.le
  have KE : K.le (M.upd s.mp (.cells (s.mem.at_ a.at_).cells 98)) := (hM.load hB a.at_ rfl).2.le
  clear hM hB hb1 hk
  generalize a.row = row at hb hbm d1 d2
  generalize M.upd s.mp _ = M2 at LD KE ⊢
  go_enter Try.func25, Try.ntmps25
  go_upto_region 5 with (first
    | (with_reducible show wpList _ _ _ ({ dst := _, op := Op.load 3 _, type := _, pos := _, after := _, guard := _ } :: _) _ _; refine wpList_load1_has h rfl 3 _ rfl rfl hbm d1 Try.underlying3 rfl ?_))
  refine wp_region_held_drew (S := Has σ (K)) (by kernel_rfl) (h.drew.le KL) (fun hHeld => ?_)
  refine wpAnyH_take (i := 0) (v := ?_) rfl (by kernel_rfl) (by kernel_rfl) (by kernel_rfl) (fun _ _ _ h => h) (Or.inl ⟨by rfl, ?_⟩) hHeld ?_
  rotate_left
  · (intro wz _; go_simp; try with_reducible rfl)
  try simp only [List.getElem_toArray, List.getElem_cons_succ, List.getElem_cons_zero, Act.put, List.setIfInBounds_toArray, List.set_cons_zero, List.set_cons_succ]
  refine wpAnyH_take (i := 2) (v := ?_) rfl (by kernel_rfl) (by kernel_rfl) (by kernel_rfl) (fun _ _ _ h => h) (Or.inl ⟨by rfl, ?_⟩) hHeld ?_
  rotate_left
  · (intro wz _; go_simp; try with_reducible rfl)
  try simp only [List.getElem_toArray, List.getElem_cons_succ, List.getElem_cons_zero, Act.put, List.setIfInBounds_toArray, List.set_cons_zero, List.set_cons_succ]
  refine wpAnyH_take (i := 3) (v := _) rfl (by kernel_rfl) (by kernel_rfl) (by kernel_rfl) (fun _ _ _ h => h) (yields_load1 rfl 3 _ rfl rfl hb d2 Try.underlying3 rfl) hHeld ?_
  try simp only [List.getElem_toArray, List.getElem_cons_succ, List.getElem_cons_zero, Act.put, List.setIfInBounds_toArray, List.set_cons_zero, List.set_cons_succ]
  replace h := h.drew
  generalize w.drew = w1 at h hHeld ⊢
  try clear w
  obtain ⟨w, rfl⟩ : ∃ q : World, q = w1 := ⟨_, rfl⟩
  refine wpAnyH_ready (rs := [1]) (by kernel_rfl) (by simp) ?_
  refine AllReadyH.cons rfl (fun K hK => ?_) AllReadyH.nil
  (go_simp; go_wp2_with (go_at_call 12; refine (ML.out _ h).mono ?_; clear h; rintro _ w ⟨rfl, h⟩))
  refine hK.out _ _ (h.le KL) (fun hHeld => ?_)
  clear hK K
  try simp only [Act.put, List.setIfInBounds_toArray, List.set_cons_zero, List.set_cons_succ]
  refine wpAnyH_ready (rs := [4]) (by kernel_rfl) (by simp) ?_
  refine AllReadyH.cons rfl (fun K hK => ?_) AllReadyH.nil
  (go_simp; go_wp2_with (go_at_call 18; refine (LD.out _ h).mono ?_; clear h; rintro _ w ⟨rfl, h⟩))
  refine hK.out _ _ (h.le KE) (fun hHeld => ?_)
  clear hK K
  try simp only [Act.put, List.setIfInBounds_toArray, List.set_cons_zero, List.set_cons_succ]
  refine wpAnyH_done (by kernel_rfl) ?_ _
  go_wp2
  go_end0
  exact ⟨rfl, h⟩
set_option maxHeartbeats 1000000 in
theorem steps1_3 {σ w : World} {K M : Mm} {lab : Nat → Nat} {p : Nat} {s : MachS} {ba : Nat} {a : ActS} (h : Has σ M w) (hM : Mach M lab p s) (hB : Base K M lab) (hb : K ba = some (.cells a.row 35)) (t : Int) (hk : a.kind = 3) (hb1 : s.mem.acc < 1000000000) (hb2 : (s.mem.at_ a.at_).acc < 1000000000) : Calls Try.prog 25 #[.pointer (some ⟨p, 0, none⟩), .int .i64 t, .pointer (some ⟨ba, 0, none⟩)] w fun r w' => r = .returned (.tuple #[]) ∧ Has σ ((M.upd s.mp (.cells (s.mem.at_ a.at_).cells 98)).upd s.mp (.cells ((s.mem.at_ a.at_).at_ a.at_).cells 98)) w' := by
  have hbm := hB.le _ _ hb
  have d1 : a.row[1]? = some (.int .i64 a.kind) := rfl
  have d2 : a.row[2]? = some (.int .i64 a.at_) := rfl
  rw [hk] at d1
  have KL := hB.le
  obtain ⟨hM2, hB2⟩ := hM.load hB a.at_ rfl
  have hbm2 := hB2.le _ _ hb
  have KE : K.le (M.upd s.mp (.cells (s.mem.at_ a.at_).cells 98)) := hB2.le
  have KE2 : K.le ((M.upd s.mp (.cells (s.mem.at_ a.at_).cells 98)).upd s.mp (.cells ((s.mem.at_ a.at_).at_ a.at_).cells 98)) := (hM2.load hB2 a.at_ rfl).2.le
  have ML := Lib.hid (fun (w : World) (h : Has σ M w) => mMem_eq h hM)
  have LD := Lib.hid (fun (w : World) (h : Has σ M w) => memLoad_eq h hM.mem hb1 a.at_)
  have ML2 := Lib.hid (fun (w : World) (h : Has σ _ w) => mMem_eq h hM2)
  have LD2 := Lib.hid (fun (w : World) (h : Has σ _ w) => memLoad_eq h hM2.mem hb2 a.at_)
  simp only at ML2 LD2
  clear hM hB hM2 hB2 hb1 hb2 hk
  generalize a.row = row at hb hbm d1 d2 hbm2
  generalize M.upd s.mp _ = M2 at LD KE ML2 LD2 KE2 hbm2 ⊢
  generalize M2.upd s.mp _ = M3 at LD2 KE2 ⊢
  go_enter Try.func25, Try.ntmps25
  go_upto_region 2 with (first
    | (with_reducible show wpList _ _ _ ({ dst := _, op := Op.load 3 _, type := _, pos := _, after := _, guard := _ } :: _) _ _; refine wpList_load1_has h rfl 3 _ rfl rfl hbm d1 Try.underlying3 rfl ?_))
  refine wp_region_held_drew (S := Has σ (K)) (by kernel_rfl) (h.drew.le KL) (fun hHeld => ?_)
  refine wpAnyH_take (i := 0) (v := ?_) rfl (by kernel_rfl) (by kernel_rfl) (by kernel_rfl) (fun _ _ _ h => h) (Or.inl ⟨by rfl, ?_⟩) hHeld ?_
  rotate_left
  · (intro wz _; go_simp; try with_reducible rfl)
  try simp only [List.getElem_toArray, List.getElem_cons_succ, List.getElem_cons_zero, Act.put, List.setIfInBounds_toArray, List.set_cons_zero, List.set_cons_succ]
  refine wpAnyH_take (i := 2) (v := ?_) rfl (by kernel_rfl) (by kernel_rfl) (by kernel_rfl) (fun _ _ _ h => h) (Or.inl ⟨by rfl, ?_⟩) hHeld ?_
  rotate_left
  · (intro wz _; go_simp; try with_reducible rfl)
  try simp only [List.getElem_toArray, List.getElem_cons_succ, List.getElem_cons_zero, Act.put, List.setIfInBounds_toArray, List.set_cons_zero, List.set_cons_succ]
  refine wpAnyH_take (i := 3) (v := _) rfl (by kernel_rfl) (by kernel_rfl) (by kernel_rfl) (fun _ _ _ h => h) (yields_load1 rfl 3 _ rfl rfl hb d2 Try.underlying3 rfl) hHeld ?_
  try simp only [List.getElem_toArray, List.getElem_cons_succ, List.getElem_cons_zero, Act.put, List.setIfInBounds_toArray, List.set_cons_zero, List.set_cons_succ]
  replace h := h.drew
  generalize w.drew = w1 at h hHeld ⊢
  try clear w
  obtain ⟨w, rfl⟩ : ∃ q : World, q = w1 := ⟨_, rfl⟩
  refine wpAnyH_ready (rs := [1]) (by kernel_rfl) (by simp) ?_
  refine AllReadyH.cons rfl (fun K hK => ?_) AllReadyH.nil
  (go_simp; go_wp2_with (go_at_call 12; refine (ML.out _ h).mono ?_; clear h; rintro _ w ⟨rfl, h⟩))
  refine hK.out _ _ (h.le KL) (fun hHeld => ?_)
  clear hK K
  try simp only [Act.put, List.setIfInBounds_toArray, List.set_cons_zero, List.set_cons_succ]
  refine wpAnyH_ready (rs := [4]) (by kernel_rfl) (by simp) ?_
  refine AllReadyH.cons rfl (fun K hK => ?_) AllReadyH.nil
  (go_simp; go_wp2_with (go_at_call 18; refine (LD.out _ h).mono ?_; clear h; rintro _ w ⟨rfl, h⟩))
  refine hK.out _ _ (h.le KE) (fun hHeld => ?_)
  clear hK K
  try simp only [Act.put, List.setIfInBounds_toArray, List.set_cons_zero, List.set_cons_succ]
  refine wpAnyH_done (by kernel_rfl) ?_ _
  clear ML LD KL hbm
  have KL := KE
  have ML := ML2
  have LD := LD2
  clear ML2 LD2 KE
  have KE := KE2
  clear KE2
  go_upto_region 3 with (fail)
  refine wp_region_held_drew (S := Has σ (K)) (by kernel_rfl) (h.drew.le KL) (fun hHeld => ?_)
  refine wpAnyH_take (i := 0) (v := ?_) rfl (by kernel_rfl) (by kernel_rfl) (by kernel_rfl) (fun _ _ _ h => h) (Or.inl ⟨by rfl, ?_⟩) hHeld ?_
  rotate_left
  · (intro wz _; go_simp; try with_reducible rfl)
  try simp only [List.getElem_toArray, List.getElem_cons_succ, List.getElem_cons_zero, Act.put, List.setIfInBounds_toArray, List.set_cons_zero, List.set_cons_succ]
  refine wpAnyH_take (i := 2) (v := ?_) rfl (by kernel_rfl) (by kernel_rfl) (by kernel_rfl) (fun _ _ _ h => h) (Or.inl ⟨by rfl, ?_⟩) hHeld ?_
  rotate_left
  · (intro wz _; go_simp; try with_reducible rfl)
  try simp only [List.getElem_toArray, List.getElem_cons_succ, List.getElem_cons_zero, Act.put, List.setIfInBounds_toArray, List.set_cons_zero, List.set_cons_succ]
  refine wpAnyH_take (i := 3) (v := _) rfl (by kernel_rfl) (by kernel_rfl) (by kernel_rfl) (fun _ _ _ h => h) (yields_load1 rfl 3 _ rfl rfl hb d2 Try.underlying3 rfl) hHeld ?_
  try simp only [List.getElem_toArray, List.getElem_cons_succ, List.getElem_cons_zero, Act.put, List.setIfInBounds_toArray, List.set_cons_zero, List.set_cons_succ]
  replace h := h.drew
  generalize w.drew = w1 at h hHeld ⊢
  try clear w
  obtain ⟨w, rfl⟩ : ∃ q : World, q = w1 := ⟨_, rfl⟩
  refine wpAnyH_ready (rs := [1]) (by kernel_rfl) (by simp) ?_
  refine AllReadyH.cons rfl (fun K hK => ?_) AllReadyH.nil
  (go_simp; go_wp2_with (go_at_call 12; refine (ML.out _ h).mono ?_; clear h; rintro _ w ⟨rfl, h⟩))
  refine hK.out _ _ (h.le KL) (fun hHeld => ?_)
  clear hK K
  try simp only [Act.put, List.setIfInBounds_toArray, List.set_cons_zero, List.set_cons_succ]
  refine wpAnyH_ready (rs := [4]) (by kernel_rfl) (by simp) ?_
  refine AllReadyH.cons rfl (fun K hK => ?_) AllReadyH.nil
  (go_simp; go_wp2_with (go_at_call 18; refine (LD.out _ h).mono ?_; clear h; rintro _ w ⟨rfl, h⟩))
  refine hK.out _ _ (h.le KE) (fun hHeld => ?_)
  clear hK K
  try simp only [Act.put, List.setIfInBounds_toArray, List.set_cons_zero, List.set_cons_succ]
  refine wpAnyH_done (by kernel_rfl) ?_ _
  go_wp2
  go_end0
  exact ⟨rfl, h⟩
set_option maxHeartbeats 1000000 in
theorem steps1_2 {σ w : World} {K M : Mm} {lab : Nat → Nat} {p : Nat} {s : MachS} {ba : Nat} {a : ActS} (h : Has σ M w) (hM : Mach M lab p s) (hB : Base K M lab) (hb : K ba = some (.cells a.row 35)) (t : Int) (hk : a.kind = 2) (hb1 : s.mem.acc < 1000000000) (hb2 : s.mem.wr < 1000000000) : Calls Try.prog 25 #[.pointer (some ⟨p, 0, none⟩), .int .i64 t, .pointer (some ⟨ba, 0, none⟩)] w fun r w' => r = .returned (.tuple #[]) ∧ Has σ (storeM M s.mp s.mem a.at_ a.n) w' := by
  have hbm := hB.le _ _ hb
  have d1 : a.row[1]? = some (.int .i64 a.kind) := rfl
  have d2 : a.row[2]? = some (.int .i64 a.at_) := rfl
  have d3 : a.row[3]? = some (.int .u64 a.n) := rfl
  rw [hk] at d1
  have ML := Lib.hid (fun (w : World) (h : Has σ M w) => mMem_eq h hM)
  have ST := Lib.hid (fun (w : World) (h : Has σ M w) => memStore_eq h hM.mem hb1 hb2 a.at_ a.n)
  have KL := hB.le
  have KE : K.le (storeM M s.mp s.mem a.at_ a.n) := (hM.store hB a.at_ a.n).2.le
  clear hM hB hb1 hb2 hk
  generalize a.row = row at hb hbm d1 d2 d3
  generalize storeM M s.mp s.mem a.at_ a.n = M2 at ST KE ⊢
  go_enter Try.func25, Try.ntmps25
  go_upto_region 7 with (first
    | (with_reducible show wpList _ _ _ ({ dst := _, op := Op.load 3 _, type := _, pos := _, after := _, guard := _ } :: _) _ _; refine wpList_load1_has h rfl 3 _ rfl rfl hbm d1 Try.underlying3 rfl ?_))
  refine wp_region_held_drew (S := Has σ (K)) (by kernel_rfl) (h.drew.le KL) (fun hHeld => ?_)
  refine wpAnyH_take (i := 0) (v := ?_) rfl (by kernel_rfl) (by kernel_rfl) (by kernel_rfl) (fun _ _ _ h => h) (Or.inl ⟨by rfl, ?_⟩) hHeld ?_
  rotate_left
  · (intro wz _; go_simp; try with_reducible rfl)
  try simp only [List.getElem_toArray, List.getElem_cons_succ, List.getElem_cons_zero, Act.put, List.setIfInBounds_toArray, List.set_cons_zero, List.set_cons_succ]
  refine wpAnyH_take (i := 2) (v := ?_) rfl (by kernel_rfl) (by kernel_rfl) (by kernel_rfl) (fun _ _ _ h => h) (Or.inl ⟨by rfl, ?_⟩) hHeld ?_
  rotate_left
  · (intro wz _; go_simp; try with_reducible rfl)
  try simp only [List.getElem_toArray, List.getElem_cons_succ, List.getElem_cons_zero, Act.put, List.setIfInBounds_toArray, List.set_cons_zero, List.set_cons_succ]
  refine wpAnyH_take (i := 3) (v := _) rfl (by kernel_rfl) (by kernel_rfl) (by kernel_rfl) (fun _ _ _ h => h) (yields_load1 rfl 3 _ rfl rfl hb d2 Try.underlying3 rfl) hHeld ?_
  try simp only [List.getElem_toArray, List.getElem_cons_succ, List.getElem_cons_zero, Act.put, List.setIfInBounds_toArray, List.set_cons_zero, List.set_cons_succ]
  refine wpAnyH_take (i := 4) (v := ?_) rfl (by kernel_rfl) (by kernel_rfl) (by kernel_rfl) (fun _ _ _ h => h) (Or.inl ⟨by rfl, ?_⟩) hHeld ?_
  rotate_left
  · (intro wz _; go_simp; try with_reducible rfl)
  try simp only [List.getElem_toArray, List.getElem_cons_succ, List.getElem_cons_zero, Act.put, List.setIfInBounds_toArray, List.set_cons_zero, List.set_cons_succ]
  refine wpAnyH_take (i := 5) (v := _) rfl (by kernel_rfl) (by kernel_rfl) (by kernel_rfl) (fun _ _ _ h => h) (yields_load1 rfl 33 _ rfl rfl hb d3 Try.underlying33 rfl) hHeld ?_
  try simp only [List.getElem_toArray, List.getElem_cons_succ, List.getElem_cons_zero, Act.put, List.setIfInBounds_toArray, List.set_cons_zero, List.set_cons_succ]
  replace h := h.drew
  generalize w.drew = w1 at h hHeld ⊢
  clear w
  obtain ⟨w, rfl⟩ : ∃ q : World, q = w1 := ⟨_, rfl⟩
  refine wpAnyH_ready (rs := [1]) (by kernel_rfl) (by simp) ?_
  refine AllReadyH.cons rfl (fun K hK => ?_) AllReadyH.nil
  (go_simp; go_wp2_with (go_at_call 12; refine (ML.out _ h).mono ?_; clear h; rintro _ w ⟨rfl, h⟩))
  refine hK.out _ _ (h.le KL) (fun hHeld => ?_)
  clear hK K
  try simp only [Act.put, List.setIfInBounds_toArray, List.set_cons_zero, List.set_cons_succ]
  refine wpAnyH_ready (rs := [6]) (by kernel_rfl) (by simp) ?_
  refine AllReadyH.cons rfl (fun K hK => ?_) AllReadyH.nil
  (go_simp; go_wp2_with (go_at_call 17; refine (ST.out _ h).mono ?_; clear h; rintro _ w ⟨rfl, h⟩))
  refine hK.out _ _ (h.le KE) (fun hHeld => ?_)
  clear hK K
  try simp only [Act.put, List.setIfInBounds_toArray, List.set_cons_zero, List.set_cons_succ]
  refine wpAnyH_done (by kernel_rfl) ?_ _
  go_wp2
  go_end0
  exact ⟨rfl, h⟩
set_option maxHeartbeats 1000000 in
theorem steps1_4 {σ w : World} {K M : Mm} {lab : Nat → Nat} {p : Nat} {s : MachS} {ba : Nat} {a : ActS} (h : Has σ M w) (hM : Mach M lab p s) (hB : Base K M lab) (hb : K ba = some (.cells a.row 35)) {t q : Nat} (hq : s.tp[t]? = some q) (hfr : (s.thr t).frames ≠ []) (hn : (s.thr t).frames.length < 1000000) (hk : a.kind = 4) : Calls Try.prog 25 #[.pointer (some ⟨p, 0, none⟩), .int .i64 (t : Nat), .pointer (some ⟨ba, 0, none⟩)] w fun r w' => r = .returned (.tuple #[]) ∧ ∃ M2, Has σ M2 w' ∧ Mach M2 lab p { s with thr := fun j => if j = t then (s.thr t).back [] else s.thr j } ∧ Base K M2 lab := by
  have hbm := hB.le _ _ hb
  have d1 : a.row[1]? = some (.int .i64 a.kind) := rfl
  rw [hk] at d1
  have TH := Lib.hid (fun (w : World) (h : Has σ M w) => mThread_yes h hM hq)
  obtain ⟨fv, hv, fbs, hT⟩ := hM.each t q hq
  have hfl : 0 < fbs.length := by rw [hT.flen]; exact List.length_pos_iff.2 hfr
  obtain ⟨fb, b, rfl⟩ : ∃ l b, fbs = l ++ [b] := ⟨fbs.dropLast, fbs.getLast (by intro e; rw [e] at hfl; simp at hfl), (List.dropLast_concat_getLast _).symm⟩
  have hfb : fb.length < 1000000 := by have := hT.flen; simp at this; omega
  have BK := Lib.hid (fun (w : World) (h : Has σ M w) => thrBack_eq h hT (rv := .slice none 0 0) (us := []) (Rd.nil _ _ _) (by simp) hfb)
  have TT := Lib.hid (fun (M2 : Mm) hK (hx : IsThr M2 lab t q ((s.thr t).back [])) => hM.thrTo hB hq hK hx)
  clear hM hB hb hk hT hfl hfb hfr hn hq
  generalize a.row = row at hbm d1
  go_enter Try.func25, Try.ntmps25
  go_wp2_with (first
    | (with_reducible show wpList _ _ _ ({ dst := _, op := Op.load 3 _, type := _, pos := _, after := _, guard := _ } :: _) _ _; refine wpList_load1_has h rfl 3 _ rfl rfl hbm d1 Try.underlying3 rfl ?_)
    | (go_at_call 10; refine (TH.out _ h).mono ?_; clear h; rintro _ w ⟨rfl, h⟩)
    | (go_at_call 26; refine (BK.out _ h).mono ?_; clear h; rintro _ w ⟨rfl, M2, h, hK, hx⟩))
  go_end0
  exact ⟨rfl, M2, h, TT.out M2 hK hx⟩
set_option maxHeartbeats 1000000 in
theorem steps1_5 {σ w : World} {K M : Mm} {lab : Nat → Nat} {p : Nat} {s : MachS} {ba : Nat} {a : ActS} (h : Has σ M w) (hM : Mach M lab p s) (hB : Base K M lab) (hb : K ba = some (.cells a.row 35)) (t : Int) {lv : Int} (hlv : levelOf s.c t = lv) (hk : a.kind = 5) (hst : StampE s.ward.gens s.ward.gclk) (hg : 0 ≤ valE lv a.at_ s.ward.gens ∧ valE lv a.at_ s.ward.gens < 1000000000) (hsl : s.ward.slips < 1000000000) (hn : s.given.length < 1000000) : Calls Try.prog 25 #[.pointer (some ⟨p, 0, none⟩), .int .i64 t, .pointer (some ⟨ba, 0, none⟩)] w fun r w' => r = .returned (.tuple #[]) ∧ ∃ M2 lab2 gv, Has σ M2 w' ∧ Base K M2 lab2 ∧ Mach M2 lab2 p (s.dropped lv a.at_ gv) := by
  have hbm := hB.le _ _ hb
  have d1 : a.row[1]? = some (.int .i64 a.kind) := rfl
  have d2 : a.row[2]? = some (.int .i64 a.at_) := rfl
  rw [hk] at d1
  have DR := Lib.hid (fun (w : World) (h : Has σ M w) => mDrop_eq h hM hB t a.at_ hlv hst hg hsl hn)
  clear hM hB hb hk hlv hst hg hsl hn
  generalize a.row = row at hbm d1 d2
  go_enter Try.func25, Try.ntmps25
  go_wp2_with (first
    | (with_reducible show wpList _ _ _ ({ dst := _, op := Op.load 3 _, type := _, pos := _, after := _, guard := _ } :: _) _ _; refine wpList_load1_has h rfl 3 _ rfl rfl hbm d1 Try.underlying3 rfl ?_)
    | (with_reducible show wpList _ _ _ ({ dst := _, op := Op.load 3 _, type := _, pos := _, after := _, guard := _ } :: _) _ _; refine wpList_load1_has h rfl 3 _ rfl rfl hbm d2 Try.underlying3 rfl ?_)
    | (go_at_call 27; refine (DR.out _ h).mono ?_; clear h; rintro _ w ⟨rfl, M2, lab2, gv, h, hB, hM⟩))
  go_end0
  exact ⟨rfl, M2, lab2, gv, h, hB, hM⟩
/-- The closure, whatever the act. -/
theorem steps1_eq {σ w : World} {K M : Mm} {lab : Nat → Nat} {p : Nat} {s : MachS} {ba : Nat} {a : ActS} (h : Has σ M w) (hM : Mach M lab p s) (hB : Base K M lab) (hb : K ba = some (.cells a.row 35)) (hk : 0 ≤ a.kind ∧ a.kind ≤ 5) {t q : Nat} {lv : Int} (hq : s.tp[t]? = some q) (hfr : (s.thr t).frames ≠ []) (hnf : (s.thr t).frames.length < 1000000) (hlv : levelOf s.c t = lv)
    (hb1 : s.mem.acc < 100000000) (hb2 : s.mem.wr < 100000000) (hst : StampE s.ward.gens s.ward.gclk) (hg : 0 ≤ valE lv a.at_ s.ward.gens ∧ valE lv a.at_ s.ward.gens < 1000000000) (hsl : s.ward.slips < 1000000000) (hn : s.given.length < 1000000) :
    Calls Try.prog 25 #[.pointer (some ⟨p, 0, none⟩), .int .i64 (t : Nat), .pointer (some ⟨ba, 0, none⟩)] w fun r w' => r = .returned (.tuple #[]) ∧ ∃ M2 lab2 s2, Has σ M2 w' ∧ Base K M2 lab2 ∧ Mach M2 lab2 p s2 ∧ ∃ gv, s2 = s.does t lv a gv := by
  have h6 : a.kind = 0 ∨ a.kind = 1 ∨ a.kind = 2 ∨ a.kind = 3 ∨ a.kind = 4 ∨ a.kind = 5 := by omega
  rcases h6 with e | e | e | e | e | e
  · refine (steps1_0 h hM hB hb t e).mono fun r w' ⟨hr, h'⟩ => ⟨hr, M, lab, s, h', hB, hM, undef, ?_⟩
    unfold MachS.does; rw [e]; rfl
  · obtain ⟨hM2, hB2⟩ := hM.load hB a.at_ rfl
    refine (steps1_1 h hM hB hb t e (by omega)).mono fun r w' ⟨hr, h'⟩ => ⟨hr, _, lab, _, h', hB2, hM2, undef, ?_⟩
    unfold MachS.does; rw [e]; rfl
  · obtain ⟨hM2, hB2⟩ := hM.store hB a.at_ a.n
    refine (steps1_2 h hM hB hb t e (by omega) (by omega)).mono fun r w' ⟨hr, h'⟩ => ⟨hr, _, lab, _, h', hB2, hM2, undef, ?_⟩
    unfold MachS.does; rw [e]; rfl
  · obtain ⟨hM2, hB2⟩ := hM.load hB a.at_ rfl
    obtain ⟨hM3, hB3⟩ := hM2.load hB2 a.at_ rfl
    refine (steps1_3 h hM hB hb t e (by omega) ?_).mono fun r w' ⟨hr, h'⟩ => ⟨hr, _, lab, _, h', hB3, hM3, undef, ?_⟩
    · unfold MemS.at_; split <;> simp <;> omega
    · unfold MachS.does; rw [e]; rfl
  · refine (steps1_4 h hM hB hb hq hfr hnf e).mono fun r w' ⟨hr, M2, h', hM2, hB2⟩ => ⟨hr, M2, lab, _, h', hB2, hM2, undef, ?_⟩
    unfold MachS.does; rw [e]; rfl
  · refine (steps1_5 h hM hB hb t hlv e hst hg hsl hn).mono fun r w' ⟨hr, M2, lab2, gv, h', hB2, hM2⟩ => ⟨hr, M2, lab2, _, h', hB2, hM2, gv, ?_⟩
    unfold MachS.does; rw [e]; rfl
end
end Go.Proofs.Ytnknlleflpkijaa
