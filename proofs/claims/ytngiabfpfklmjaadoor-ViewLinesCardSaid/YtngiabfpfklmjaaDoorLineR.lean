/- Walk of the document's Line. (Printed by gen_liner.py.) -/
import Derived.Test.YtngiabfpfklmjaaDoorLineV
import Derived.Test.YtngiabfpfklmjaaDoorHeldB
namespace Go.Proofs.YtngiabfpfklmjaaDoor
open Go.RowKit
set_option linter.unusedVariables false
set_option linter.unusedSimpArgs false
set_option linter.unnecessarySimpa false
def preR (x : Sn) : ByteArray := decI x.t ++ ((⟨#[58, 32, 116, 104, 114, 101, 97, 100, 32]⟩ : ByteArray)) ++ decI x.th ++ ((⟨#[32]⟩ : ByteArray))
def refLine0 (x : Sn) : ByteArray := (preR x) ++ (wordOf x.op) ++ ((⟨#[32]⟩ : ByteArray)) ++ (decI x.cl) ++ ((⟨#[32]⟩ : ByteArray)) ++ (decI x.key) ++ ((⟨#[32]⟩ : ByteArray)) ++ (decU x.pa) ++ ((⟨#[32]⟩ : ByteArray)) ++ (decU x.pb) ++ ((⟨#[32]⟩ : ByteArray)) ++ (decU x.ch)
def refLine1 (x : Sn) : ByteArray := (preR x) ++ ((⟨#[98, 97, 99, 107, 32]⟩ : ByteArray)) ++ (codeName x.err) ++ ((⟨#[32]⟩ : ByteArray)) ++ (decU x.qa) ++ ((⟨#[32]⟩ : ByteArray)) ++ (decU x.qb) ++ ((⟨#[32]⟩ : ByteArray)) ++ (decI x.n) ++ ((⟨#[32]⟩ : ByteArray)) ++ (decI x.ak) ++ ((⟨#[32]⟩ : ByteArray)) ++ (decU x.ah)
def refLine2 (x : Sn) : ByteArray := (preR x) ++ ((⟨#[103, 97, 118, 101, 32]⟩ : ByteArray)) ++ (decU x.hd)

set_option maxHeartbeats 4000000 in
theorem refLine_0 {σ w : World} {M : Mm} (h : Has σ M w) (x : Sn) (hx : x.Ok) (hw0 : x.wh = 0) :
    Calls Tryd.prog 7 #[.agg x.cells] w fun r w' => r = .returned (.string (refLine0 x)) ∧ Has σ M w' := by
  have g0 : (x.wh == 0) = true := by rw [hw0]; rfl
  clear hw0
  have N_t : Hid (∀ (M' : Mm) (w1 : World), Has σ M' w1 → Calls Tryd.prog 17 #[.int .i64 x.t] w1 fun r w' => r = .returned (.string (decI x.t)) ∧ Has σ M' w') := fun M' w1 h => number_all x.t hx.t.1 hx.t.2 h
  have z_t := decI_size hx.t.1 hx.t.2
  obtain ⟨n_t, E_t⟩ : ∃ q, Hid (q = decI x.t) := ⟨_, rfl⟩
  rw [← E_t.out] at N_t z_t
  have N_th : Hid (∀ (M' : Mm) (w1 : World), Has σ M' w1 → Calls Tryd.prog 17 #[.int .i64 x.th] w1 fun r w' => r = .returned (.string (decI x.th)) ∧ Has σ M' w') := fun M' w1 h => number_all x.th hx.th.1 hx.th.2 h
  have z_th := decI_size hx.th.1 hx.th.2
  obtain ⟨n_th, E_th⟩ : ∃ q, Hid (q = decI x.th) := ⟨_, rfl⟩
  rw [← E_th.out] at N_th z_th
  have N_op : Hid (∀ (M' : Mm) (w1 : World), Has σ M' w1 → Calls Tryd.prog 18 #[.int .i64 x.op] w1 fun r w' => r = .returned (.string (wordOf x.op)) ∧ Has σ M' w') := fun M' w1 h => (refWord_any x.op w1).mono fun r w2 ⟨hr, hw⟩ => ⟨hr, h.below hw⟩
  have z_op := wordOf_size x.op
  obtain ⟨n_op, E_op⟩ : ∃ q, Hid (q = wordOf x.op) := ⟨_, rfl⟩
  rw [← E_op.out] at N_op z_op
  have N_cl : Hid (∀ (M' : Mm) (w1 : World), Has σ M' w1 → Calls Tryd.prog 17 #[.int .i64 x.cl] w1 fun r w' => r = .returned (.string (decI x.cl)) ∧ Has σ M' w') := fun M' w1 h => number_all x.cl hx.cl.1 hx.cl.2 h
  have z_cl := decI_size hx.cl.1 hx.cl.2
  obtain ⟨n_cl, E_cl⟩ : ∃ q, Hid (q = decI x.cl) := ⟨_, rfl⟩
  rw [← E_cl.out] at N_cl z_cl
  have N_key : Hid (∀ (M' : Mm) (w1 : World), Has σ M' w1 → Calls Tryd.prog 17 #[.int .i64 x.key] w1 fun r w' => r = .returned (.string (decI x.key)) ∧ Has σ M' w') := fun M' w1 h => number_all x.key hx.key.1 hx.key.2 h
  have z_key := decI_size hx.key.1 hx.key.2
  obtain ⟨n_key, E_key⟩ : ∃ q, Hid (q = decI x.key) := ⟨_, rfl⟩
  rw [← E_key.out] at N_key z_key
  have N_pa : Hid (∀ (M' : Mm) (w1 : World), Has σ M' w1 → Calls Tryd.prog 19 #[.int .u64 (x.pa : Nat)] w1 fun r w' => r = .returned (.string (decU x.pa)) ∧ Has σ M' w') := fun M' w1 h => bits_all x.pa hx.pa w1 h
  have z_pa := decU_size hx.pa
  obtain ⟨n_pa, E_pa⟩ : ∃ q, Hid (q = decU x.pa) := ⟨_, rfl⟩
  rw [← E_pa.out] at N_pa z_pa
  have N_pb : Hid (∀ (M' : Mm) (w1 : World), Has σ M' w1 → Calls Tryd.prog 19 #[.int .u64 (x.pb : Nat)] w1 fun r w' => r = .returned (.string (decU x.pb)) ∧ Has σ M' w') := fun M' w1 h => bits_all x.pb hx.pb w1 h
  have z_pb := decU_size hx.pb
  obtain ⟨n_pb, E_pb⟩ : ∃ q, Hid (q = decU x.pb) := ⟨_, rfl⟩
  rw [← E_pb.out] at N_pb z_pb
  have N_ch : Hid (∀ (M' : Mm) (w1 : World), Has σ M' w1 → Calls Tryd.prog 19 #[.int .u64 (x.ch : Nat)] w1 fun r w' => r = .returned (.string (decU x.ch)) ∧ Has σ M' w') := fun M' w1 h => bits_all x.ch hx.ch w1 h
  have z_ch := decU_size hx.ch
  obtain ⟨n_ch, E_ch⟩ : ∃ q, Hid (q = decU x.ch) := ⟨_, rfl⟩
  rw [← E_ch.out] at N_ch z_ch
  clear hx
  go_enter Tryd.func7, Tryd.ntmps7
  go_upto_region 1 with (first
    | ((with_reducible show wpList _ _ _ ({ dst := _, op := Op.box 31 _, type := _, pos := _, after := _, guard := _ } :: _) _ _); refine wpList_box_has h rfl 31 _ rfl ?_; clear h; intro b1 w h hn1; try simp only [Act.put, List.setIfInBounds_toArray, List.set_cons_zero, List.set_cons_succ]))
  generalize hM1 : M.upd b1 _ = M1 at h
  have hle : M.le M1 := by rw [← hM1]; exact Mm.le_upd' hn1 _
  have hb1 : M1 b1 = some (.cells x.cells 31) := by rw [← hM1]; exact Mm.upd_same _ _ _
  have HL := Lib.hid hle
  clear hM1 hn1 hle
  have d_t : x.cells[0]? = some (.int .i64 x.t) := rfl
  have d_wh : x.cells[1]? = some (.int .i64 x.wh) := rfl
  have d_th : x.cells[2]? = some (.int .i64 x.th) := rfl
  have d_hd : x.cells[17]? = some (.int .u64 (x.hd : Nat)) := rfl
  refine wp_region_class (Has σ M1) (by kernel_rfl) (by kernel_rfl) h.drew ?_
  clear h
  repeat (first
    | go_big_quiet_skip
    | (go_big_quiet_want; first
      | (refine quiet_load_has 3 _ rfl rfl hb1 d_t Tryd.underlying3 rfl ?_; simp only [Act.put, List.setIfInBounds_toArray, List.set_cons_zero, List.set_cons_succ]; go_big_quiet_on)
      | (refine quiet_load_has 3 _ rfl rfl hb1 d_th Tryd.underlying3 rfl ?_; simp only [Act.put, List.setIfInBounds_toArray, List.set_cons_zero, List.set_cons_succ]; go_big_quiet_on)
      | (go_big_quiet_op; first | go_big_quiet_on | go_big_quiet_call (first | with_reducible exact fun _ => rfl | with_reducible exact N_t.out M1 _ | with_reducible exact N_th.out M1 _))))
  refine wpQuiet_nil ?_
  try clear w
  intro w h
  go_upto_region 2 with (fail)
  have e4 : x.cells.extract 4 (4 + 7) = #[.int .i64 x.op, .int .i64 x.cl, .int .i64 x.key, .int .u64 (x.pa : Nat), .int .u64 (x.pb : Nat), .int .u64 (x.ch : Nat), .int .i64 x.reg] := rfl
  have e5 : x.cells.extract 11 (11 + 6) = #[.int .i64 x.err, .int .u64 (x.qa : Nat), .int .u64 (x.qb : Nat), .int .u64 (x.ah : Nat), .int .i64 x.n, .int .i64 x.ak] := rfl
  replace h := h.drew
  refine wp_region_held_drew (S := Has σ (M1)) (by kernel_rfl) (h) (fun hHeld => ?_)
  refine wpAnyH_take (i := 0) (v := ?_) rfl (by kernel_rfl) (by kernel_rfl) (by kernel_rfl) (fun _ _ _ h => h) (Or.inl ⟨by rfl, ?_⟩) hHeld ?_
  rotate_left
  · (intro wz _; go_simp; try with_reducible rfl)
  try simp only [List.getElem_toArray, List.getElem_cons_succ, List.getElem_cons_zero, Act.put, List.setIfInBounds_toArray, List.set_cons_zero, List.set_cons_succ]
  refine wpAnyH_take (i := 1) (v := _) rfl (by kernel_rfl) (by kernel_rfl) (by kernel_rfl) (fun _ _ _ h => h) (yields_agg rfl 26 _ rfl rfl hb1 e4 rfl Tryd.underlying26 rfl (by kernel_rfl)) hHeld ?_
  try simp only [List.getElem_toArray, List.getElem_cons_succ, List.getElem_cons_zero, Act.put, List.setIfInBounds_toArray, List.set_cons_zero, List.set_cons_succ]
  refine wpAnyH_take (i := 2) (v := ?_) rfl (by kernel_rfl) (by kernel_rfl) (by kernel_rfl) (fun _ _ _ h => h) (Or.inl ⟨by rfl, ?_⟩) hHeld ?_
  rotate_left
  · (intro wz _; go_simp; try with_reducible rfl)
  try simp only [List.getElem_toArray, List.getElem_cons_succ, List.getElem_cons_zero, Act.put, List.setIfInBounds_toArray, List.set_cons_zero, List.set_cons_succ]
  refine wpAnyH_take (i := 3) (v := _) rfl (by kernel_rfl) (by kernel_rfl) (by kernel_rfl) (fun _ _ _ h => h) (yields_agg rfl 29 _ rfl rfl hb1 e5 rfl Tryd.underlying29 rfl (by kernel_rfl)) hHeld ?_
  try simp only [List.getElem_toArray, List.getElem_cons_succ, List.getElem_cons_zero, Act.put, List.setIfInBounds_toArray, List.set_cons_zero, List.set_cons_succ]
  clear e4 e5
  generalize w.drew = w1 at h hHeld ⊢
  clear w
  obtain ⟨w, rfl⟩ : ∃ q : World, q = w1 := ⟨_, rfl⟩
  refine wpAnyH_ready (rs := [4, 5]) (by kernel_rfl) (by simp) ?_
  refine AllReadyH.cons rfl (fun K hK => ?_) (AllReadyH.cons rfl (fun K hK => ?_) AllReadyH.nil)
  · go_simp
    refine hK.out _ _ (h.quietAlloc _) (fun hHeld => ?_)
    clear hK K
    try simp only [Act.put, List.setIfInBounds_toArray, List.set_cons_zero, List.set_cons_succ]
    clear hHeld
    obtain ⟨M4, hbx, hle4, hba, hna⟩ := h.box (.cells #[.int .i64 0, .int .i64 0, .int .i64 0, .int .u64 0, .int .u64 0, .int .u64 0, .int .i64 0] 26)
    generalize w.alloc _ = wx at hbx ⊢
    generalize w.heap.size = b4 at hba hna ⊢
    clear h
    try clear w
    have h := hbx
    clear hbx
    obtain ⟨w, rfl⟩ : ∃ x : World, x = wx := ⟨_, rfl⟩
    have hHeld : Has σ M1 w := h.le hle4
    refine wpAnyH_ready (rs := [5]) (by kernel_rfl) (by simp) ?_
    refine AllReadyH.cons rfl (fun K hK => ?_) AllReadyH.nil
    go_simp
    refine hK.out _ _ ((h.quietAlloc _).le hle4) (fun hHeld => ?_)
    clear hK K
    try simp only [Act.put, List.setIfInBounds_toArray, List.set_cons_zero, List.set_cons_succ]
    clear hHeld
    obtain ⟨M5, hbx, hle5, hbb, hnb⟩ := h.box (.cells #[.int .i64 0, .int .u64 0, .int .u64 0, .int .u64 0, .int .i64 0, .int .i64 0] 29)
    generalize w.alloc _ = wx at hbx ⊢
    generalize w.heap.size = b5 at hbb hnb ⊢
    clear h
    try clear w
    have h := hbx
    clear hbx
    obtain ⟨w, rfl⟩ : ∃ x : World, x = wx := ⟨_, rfl⟩
    have hHeld : Has σ M1 w := h.le (Mm.le_trans hle4 hle5)
    have hab := Mm.ne_of hnb hba
    have hba := hle5 _ _ hba
    have h15 := Mm.none_of hle4 hnb
    have hle15 := Mm.le_trans hle4 hle5
    refine wpAnyH_ready (rs := [6]) (by kernel_rfl) (by simp) ?_
    refine AllReadyH.cons rfl (fun K hK => ?_) AllReadyH.nil
    (refine step_storeAll (cells := #[.int .i64 x.op, .int .i64 x.cl, .int .i64 x.key, .int .u64 (x.pa : Nat), .int .u64 (x.pb : Nat), .int .u64 (x.ch : Nat), .int .i64 x.reg]) h rfl 26 _ _ rfl rfl rfl hba rfl rfl (by kernel_rfl) rfl ?_; clear h; intro w h)
    refine hK.out _ _ (h.le (Mm.le_upd hle15 hna _)) (fun hHeld => ?_)
    clear hK K
    try simp only [Act.put, List.setIfInBounds_toArray, List.set_cons_zero, List.set_cons_succ]
    have hbo := (Mm.upd_ne (o := .cells #[.int .i64 x.op, .int .i64 x.cl, .int .i64 x.key, .int .u64 (x.pa : Nat), .int .u64 (x.pb : Nat), .int .u64 (x.ch : Nat), .int .i64 x.reg] 26) hab.symm).trans hbb
    refine wpAnyH_ready (rs := [7]) (by kernel_rfl) (by simp) ?_
    refine AllReadyH.cons rfl (fun K hK => ?_) AllReadyH.nil
    (refine step_storeAll (cells := #[.int .i64 x.err, .int .u64 (x.qa : Nat), .int .u64 (x.qb : Nat), .int .u64 (x.ah : Nat), .int .i64 x.n, .int .i64 x.ak]) h rfl 29 _ _ rfl rfl rfl hbo rfl rfl (by kernel_rfl) rfl ?_; clear h; intro w h)
    refine hK.out _ _ (h.le (Mm.le_upd (Mm.le_upd hle15 hna _) h15 _)) (fun hHeld => ?_)
    clear hK K
    try simp only [Act.put, List.setIfInBounds_toArray, List.set_cons_zero, List.set_cons_succ]
    have hleF := Mm.le_upd (Mm.le_upd hle15 hna (.cells #[.int .i64 x.op, .int .i64 x.cl, .int .i64 x.key, .int .u64 (x.pa : Nat), .int .u64 (x.pb : Nat), .int .u64 (x.ch : Nat), .int .i64 x.reg] 26)) h15 (.cells #[.int .i64 x.err, .int .u64 (x.qa : Nat), .int .u64 (x.qb : Nat), .int .u64 (x.ah : Nat), .int .i64 x.n, .int .i64 x.ak] 29)
    have hb4 := (Mm.upd_ne (M := M5.upd b4 (.cells #[.int .i64 x.op, .int .i64 x.cl, .int .i64 x.key, .int .u64 (x.pa : Nat), .int .u64 (x.pb : Nat), .int .u64 (x.ch : Nat), .int .i64 x.reg] 26)) (o := .cells #[.int .i64 x.err, .int .u64 (x.qa : Nat), .int .u64 (x.qb : Nat), .int .u64 (x.ah : Nat), .int .i64 x.n, .int .i64 x.ak] 29) hab).trans (Mm.upd_same M5 b4 (.cells #[.int .i64 x.op, .int .i64 x.cl, .int .i64 x.key, .int .u64 (x.pa : Nat), .int .u64 (x.pb : Nat), .int .u64 (x.ch : Nat), .int .i64 x.reg] 26))
    have hb5 := Mm.upd_same (M5.upd b4 (.cells #[.int .i64 x.op, .int .i64 x.cl, .int .i64 x.key, .int .u64 (x.pa : Nat), .int .u64 (x.pb : Nat), .int .u64 (x.ch : Nat), .int .i64 x.reg] 26)) b5 (.cells #[.int .i64 x.err, .int .u64 (x.qa : Nat), .int .u64 (x.qb : Nat), .int .u64 (x.ah : Nat), .int .i64 x.n, .int .i64 x.ak] 29)
    generalize (M5.upd b4 _).upd b5 _ = M7 at h hleF hb4 hb5
    clear hbo hba hbb hna hnb hab h15 hle15 hle4 hle5
    refine wpAnyH_done (by kernel_rfl) ?_ _
    replace hb1 := hleF _ _ hb1
    clear hHeld
    have d_op : (#[.int .i64 x.op, .int .i64 x.cl, .int .i64 x.key, .int .u64 (x.pa : Nat), .int .u64 (x.pb : Nat), .int .u64 (x.ch : Nat), .int .i64 x.reg] : Array Value)[0]? = some (.int .i64 x.op) := rfl
    have d_cl : (#[.int .i64 x.op, .int .i64 x.cl, .int .i64 x.key, .int .u64 (x.pa : Nat), .int .u64 (x.pb : Nat), .int .u64 (x.ch : Nat), .int .i64 x.reg] : Array Value)[1]? = some (.int .i64 x.cl) := rfl
    have d_key : (#[.int .i64 x.op, .int .i64 x.cl, .int .i64 x.key, .int .u64 (x.pa : Nat), .int .u64 (x.pb : Nat), .int .u64 (x.ch : Nat), .int .i64 x.reg] : Array Value)[2]? = some (.int .i64 x.key) := rfl
    have d_pa : (#[.int .i64 x.op, .int .i64 x.cl, .int .i64 x.key, .int .u64 (x.pa : Nat), .int .u64 (x.pb : Nat), .int .u64 (x.ch : Nat), .int .i64 x.reg] : Array Value)[3]? = some (.int .u64 (x.pa : Nat)) := rfl
    have d_pb : (#[.int .i64 x.op, .int .i64 x.cl, .int .i64 x.key, .int .u64 (x.pa : Nat), .int .u64 (x.pb : Nat), .int .u64 (x.ch : Nat), .int .i64 x.reg] : Array Value)[4]? = some (.int .u64 (x.pb : Nat)) := rfl
    have d_ch : (#[.int .i64 x.op, .int .i64 x.cl, .int .i64 x.key, .int .u64 (x.pa : Nat), .int .u64 (x.pb : Nat), .int .u64 (x.ch : Nat), .int .i64 x.reg] : Array Value)[5]? = some (.int .u64 (x.ch : Nat)) := rfl
    go_upto_region 5 with (first
      | (with_reducible show wpList _ _ _ ({ dst := _, op := Op.load 3 _, type := _, pos := _, after := _, guard := _ } :: _) _ _; refine wpList_load1_has h rfl 3 _ rfl rfl hb1 d_wh Tryd.underlying3 rfl ?_))
    refine wp_region_class (Has σ M7) (by kernel_rfl) (by kernel_rfl) h.drew ?_
    clear h
    repeat (first
      | go_big_quiet_skip
      | (go_big_quiet_want; first
        | (refine quiet_load_has 3 _ rfl rfl hb4 d_op Tryd.underlying3 rfl ?_; simp only [Act.put, List.setIfInBounds_toArray, List.set_cons_zero, List.set_cons_succ]; go_big_quiet_on)
        | (refine quiet_load_has 3 _ rfl rfl hb4 d_cl Tryd.underlying3 rfl ?_; simp only [Act.put, List.setIfInBounds_toArray, List.set_cons_zero, List.set_cons_succ]; go_big_quiet_on)
        | (refine quiet_load_has 2 _ rfl rfl hb4 d_key Tryd.underlying2 rfl ?_; simp only [Act.put, List.setIfInBounds_toArray, List.set_cons_zero, List.set_cons_succ]; go_big_quiet_on)
        | (refine quiet_load_has 22 _ rfl rfl hb4 d_pa Tryd.underlying22 rfl ?_; simp only [Act.put, List.setIfInBounds_toArray, List.set_cons_zero, List.set_cons_succ]; go_big_quiet_on)
        | (refine quiet_load_has 22 _ rfl rfl hb4 d_pb Tryd.underlying22 rfl ?_; simp only [Act.put, List.setIfInBounds_toArray, List.set_cons_zero, List.set_cons_succ]; go_big_quiet_on)
        | (refine quiet_load_has 22 _ rfl rfl hb4 d_ch Tryd.underlying22 rfl ?_; simp only [Act.put, List.setIfInBounds_toArray, List.set_cons_zero, List.set_cons_succ]; go_big_quiet_on)
        | (go_big_quiet_op; first | go_big_quiet_on | go_big_quiet_call (first | with_reducible exact fun _ => rfl | with_reducible exact N_op.out M7 _ | with_reducible exact N_cl.out M7 _ | with_reducible exact N_key.out M7 _ | with_reducible exact N_pa.out M7 _ | with_reducible exact N_pb.out M7 _ | with_reducible exact N_ch.out M7 _))))
    refine wpQuiet_nil ?_
    try clear w
    intro w h
    go_wp2
    go_ret
    refine ⟨?_, h.le (Mm.le_trans HL.out hleF)⟩
    unfold refLine0 preR
    rw [← E_t.out, ← E_th.out, ← E_op.out, ← E_cl.out, ← E_key.out, ← E_pa.out, ← E_pb.out, ← E_ch.out]
    rfl
  · go_simp
    refine hK.out _ _ (h.quietAlloc _) (fun hHeld => ?_)
    clear hK K
    try simp only [Act.put, List.setIfInBounds_toArray, List.set_cons_zero, List.set_cons_succ]
    clear hHeld
    obtain ⟨M4, hbx, hle4, hba, hna⟩ := h.box (.cells #[.int .i64 0, .int .u64 0, .int .u64 0, .int .u64 0, .int .i64 0, .int .i64 0] 29)
    generalize w.alloc _ = wx at hbx ⊢
    generalize w.heap.size = b5 at hba hna ⊢
    clear h
    try clear w
    have h := hbx
    clear hbx
    obtain ⟨w, rfl⟩ : ∃ x : World, x = wx := ⟨_, rfl⟩
    have hHeld : Has σ M1 w := h.le hle4
    refine wpAnyH_ready (rs := [4]) (by kernel_rfl) (by simp) ?_
    refine AllReadyH.cons rfl (fun K hK => ?_) AllReadyH.nil
    go_simp
    refine hK.out _ _ ((h.quietAlloc _).le hle4) (fun hHeld => ?_)
    clear hK K
    try simp only [Act.put, List.setIfInBounds_toArray, List.set_cons_zero, List.set_cons_succ]
    clear hHeld
    obtain ⟨M5, hbx, hle5, hbb, hnb⟩ := h.box (.cells #[.int .i64 0, .int .i64 0, .int .i64 0, .int .u64 0, .int .u64 0, .int .u64 0, .int .i64 0] 26)
    generalize w.alloc _ = wx at hbx ⊢
    generalize w.heap.size = b4 at hbb hnb ⊢
    clear h
    try clear w
    have h := hbx
    clear hbx
    obtain ⟨w, rfl⟩ : ∃ x : World, x = wx := ⟨_, rfl⟩
    have hHeld : Has σ M1 w := h.le (Mm.le_trans hle4 hle5)
    have hab := Mm.ne_of hnb hba
    have hba := hle5 _ _ hba
    have h15 := Mm.none_of hle4 hnb
    have hle15 := Mm.le_trans hle4 hle5
    refine wpAnyH_ready (rs := [6]) (by kernel_rfl) (by simp) ?_
    refine AllReadyH.cons rfl (fun K hK => ?_) AllReadyH.nil
    (refine step_storeAll (cells := #[.int .i64 x.op, .int .i64 x.cl, .int .i64 x.key, .int .u64 (x.pa : Nat), .int .u64 (x.pb : Nat), .int .u64 (x.ch : Nat), .int .i64 x.reg]) h rfl 26 _ _ rfl rfl rfl hbb rfl rfl (by kernel_rfl) rfl ?_; clear h; intro w h)
    refine hK.out _ _ (h.le (Mm.le_upd hle15 h15 _)) (fun hHeld => ?_)
    clear hK K
    try simp only [Act.put, List.setIfInBounds_toArray, List.set_cons_zero, List.set_cons_succ]
    have hbo := (Mm.upd_ne (o := .cells #[.int .i64 x.op, .int .i64 x.cl, .int .i64 x.key, .int .u64 (x.pa : Nat), .int .u64 (x.pb : Nat), .int .u64 (x.ch : Nat), .int .i64 x.reg] 26) hab).trans hba
    refine wpAnyH_ready (rs := [7]) (by kernel_rfl) (by simp) ?_
    refine AllReadyH.cons rfl (fun K hK => ?_) AllReadyH.nil
    (refine step_storeAll (cells := #[.int .i64 x.err, .int .u64 (x.qa : Nat), .int .u64 (x.qb : Nat), .int .u64 (x.ah : Nat), .int .i64 x.n, .int .i64 x.ak]) h rfl 29 _ _ rfl rfl rfl hbo rfl rfl (by kernel_rfl) rfl ?_; clear h; intro w h)
    refine hK.out _ _ (h.le (Mm.le_upd (Mm.le_upd hle15 h15 _) hna _)) (fun hHeld => ?_)
    clear hK K
    try simp only [Act.put, List.setIfInBounds_toArray, List.set_cons_zero, List.set_cons_succ]
    have hleF := Mm.le_upd (Mm.le_upd hle15 h15 (.cells #[.int .i64 x.op, .int .i64 x.cl, .int .i64 x.key, .int .u64 (x.pa : Nat), .int .u64 (x.pb : Nat), .int .u64 (x.ch : Nat), .int .i64 x.reg] 26)) hna (.cells #[.int .i64 x.err, .int .u64 (x.qa : Nat), .int .u64 (x.qb : Nat), .int .u64 (x.ah : Nat), .int .i64 x.n, .int .i64 x.ak] 29)
    have hb4 := (Mm.upd_ne (M := M5.upd b4 (.cells #[.int .i64 x.op, .int .i64 x.cl, .int .i64 x.key, .int .u64 (x.pa : Nat), .int .u64 (x.pb : Nat), .int .u64 (x.ch : Nat), .int .i64 x.reg] 26)) (o := .cells #[.int .i64 x.err, .int .u64 (x.qa : Nat), .int .u64 (x.qb : Nat), .int .u64 (x.ah : Nat), .int .i64 x.n, .int .i64 x.ak] 29) hab.symm).trans (Mm.upd_same M5 b4 (.cells #[.int .i64 x.op, .int .i64 x.cl, .int .i64 x.key, .int .u64 (x.pa : Nat), .int .u64 (x.pb : Nat), .int .u64 (x.ch : Nat), .int .i64 x.reg] 26))
    have hb5 := Mm.upd_same (M5.upd b4 (.cells #[.int .i64 x.op, .int .i64 x.cl, .int .i64 x.key, .int .u64 (x.pa : Nat), .int .u64 (x.pb : Nat), .int .u64 (x.ch : Nat), .int .i64 x.reg] 26)) b5 (.cells #[.int .i64 x.err, .int .u64 (x.qa : Nat), .int .u64 (x.qb : Nat), .int .u64 (x.ah : Nat), .int .i64 x.n, .int .i64 x.ak] 29)
    generalize (M5.upd b4 _).upd b5 _ = M7 at h hleF hb4 hb5
    clear hbo hba hbb hna hnb hab h15 hle15 hle4 hle5
    refine wpAnyH_done (by kernel_rfl) ?_ _
    replace hb1 := hleF _ _ hb1
    clear hHeld
    have d_op : (#[.int .i64 x.op, .int .i64 x.cl, .int .i64 x.key, .int .u64 (x.pa : Nat), .int .u64 (x.pb : Nat), .int .u64 (x.ch : Nat), .int .i64 x.reg] : Array Value)[0]? = some (.int .i64 x.op) := rfl
    have d_cl : (#[.int .i64 x.op, .int .i64 x.cl, .int .i64 x.key, .int .u64 (x.pa : Nat), .int .u64 (x.pb : Nat), .int .u64 (x.ch : Nat), .int .i64 x.reg] : Array Value)[1]? = some (.int .i64 x.cl) := rfl
    have d_key : (#[.int .i64 x.op, .int .i64 x.cl, .int .i64 x.key, .int .u64 (x.pa : Nat), .int .u64 (x.pb : Nat), .int .u64 (x.ch : Nat), .int .i64 x.reg] : Array Value)[2]? = some (.int .i64 x.key) := rfl
    have d_pa : (#[.int .i64 x.op, .int .i64 x.cl, .int .i64 x.key, .int .u64 (x.pa : Nat), .int .u64 (x.pb : Nat), .int .u64 (x.ch : Nat), .int .i64 x.reg] : Array Value)[3]? = some (.int .u64 (x.pa : Nat)) := rfl
    have d_pb : (#[.int .i64 x.op, .int .i64 x.cl, .int .i64 x.key, .int .u64 (x.pa : Nat), .int .u64 (x.pb : Nat), .int .u64 (x.ch : Nat), .int .i64 x.reg] : Array Value)[4]? = some (.int .u64 (x.pb : Nat)) := rfl
    have d_ch : (#[.int .i64 x.op, .int .i64 x.cl, .int .i64 x.key, .int .u64 (x.pa : Nat), .int .u64 (x.pb : Nat), .int .u64 (x.ch : Nat), .int .i64 x.reg] : Array Value)[5]? = some (.int .u64 (x.ch : Nat)) := rfl
    go_upto_region 5 with (first
      | (with_reducible show wpList _ _ _ ({ dst := _, op := Op.load 3 _, type := _, pos := _, after := _, guard := _ } :: _) _ _; refine wpList_load1_has h rfl 3 _ rfl rfl hb1 d_wh Tryd.underlying3 rfl ?_))
    refine wp_region_class (Has σ M7) (by kernel_rfl) (by kernel_rfl) h.drew ?_
    clear h
    repeat (first
      | go_big_quiet_skip
      | (go_big_quiet_want; first
        | (refine quiet_load_has 3 _ rfl rfl hb4 d_op Tryd.underlying3 rfl ?_; simp only [Act.put, List.setIfInBounds_toArray, List.set_cons_zero, List.set_cons_succ]; go_big_quiet_on)
        | (refine quiet_load_has 3 _ rfl rfl hb4 d_cl Tryd.underlying3 rfl ?_; simp only [Act.put, List.setIfInBounds_toArray, List.set_cons_zero, List.set_cons_succ]; go_big_quiet_on)
        | (refine quiet_load_has 2 _ rfl rfl hb4 d_key Tryd.underlying2 rfl ?_; simp only [Act.put, List.setIfInBounds_toArray, List.set_cons_zero, List.set_cons_succ]; go_big_quiet_on)
        | (refine quiet_load_has 22 _ rfl rfl hb4 d_pa Tryd.underlying22 rfl ?_; simp only [Act.put, List.setIfInBounds_toArray, List.set_cons_zero, List.set_cons_succ]; go_big_quiet_on)
        | (refine quiet_load_has 22 _ rfl rfl hb4 d_pb Tryd.underlying22 rfl ?_; simp only [Act.put, List.setIfInBounds_toArray, List.set_cons_zero, List.set_cons_succ]; go_big_quiet_on)
        | (refine quiet_load_has 22 _ rfl rfl hb4 d_ch Tryd.underlying22 rfl ?_; simp only [Act.put, List.setIfInBounds_toArray, List.set_cons_zero, List.set_cons_succ]; go_big_quiet_on)
        | (go_big_quiet_op; first | go_big_quiet_on | go_big_quiet_call (first | with_reducible exact fun _ => rfl | with_reducible exact N_op.out M7 _ | with_reducible exact N_cl.out M7 _ | with_reducible exact N_key.out M7 _ | with_reducible exact N_pa.out M7 _ | with_reducible exact N_pb.out M7 _ | with_reducible exact N_ch.out M7 _))))
    refine wpQuiet_nil ?_
    try clear w
    intro w h
    go_wp2
    go_ret
    refine ⟨?_, h.le (Mm.le_trans HL.out hleF)⟩
    unfold refLine0 preR
    rw [← E_t.out, ← E_th.out, ← E_op.out, ← E_cl.out, ← E_key.out, ← E_pa.out, ← E_pb.out, ← E_ch.out]
    rfl

set_option maxHeartbeats 4000000 in
theorem refLine_1 {σ w : World} {M : Mm} (h : Has σ M w) (x : Sn) (hx : x.Ok) (hw0 : x.wh = 1) :
    Calls Tryd.prog 7 #[.agg x.cells] w fun r w' => r = .returned (.string (refLine1 x)) ∧ Has σ M w' := by
  have g0 : (x.wh == 0) = false := by rw [hw0]; rfl
  have g1 : (x.wh == 1) = true := by rw [hw0]; rfl
  clear hw0
  have N_t : Hid (∀ (M' : Mm) (w1 : World), Has σ M' w1 → Calls Tryd.prog 17 #[.int .i64 x.t] w1 fun r w' => r = .returned (.string (decI x.t)) ∧ Has σ M' w') := fun M' w1 h => number_all x.t hx.t.1 hx.t.2 h
  have z_t := decI_size hx.t.1 hx.t.2
  obtain ⟨n_t, E_t⟩ : ∃ q, Hid (q = decI x.t) := ⟨_, rfl⟩
  rw [← E_t.out] at N_t z_t
  have N_th : Hid (∀ (M' : Mm) (w1 : World), Has σ M' w1 → Calls Tryd.prog 17 #[.int .i64 x.th] w1 fun r w' => r = .returned (.string (decI x.th)) ∧ Has σ M' w') := fun M' w1 h => number_all x.th hx.th.1 hx.th.2 h
  have z_th := decI_size hx.th.1 hx.th.2
  obtain ⟨n_th, E_th⟩ : ∃ q, Hid (q = decI x.th) := ⟨_, rfl⟩
  rw [← E_th.out] at N_th z_th
  have N_err : Hid (∀ (M' : Mm) (w1 : World), Has σ M' w1 → Calls Tryd.prog 20 #[.int .i64 x.err] w1 fun r w' => r = .returned (.string (codeName x.err)) ∧ Has σ M' w') := fun M' w1 h => refName_eq h x.err
  have z_err := codeName_size x.err
  obtain ⟨n_err, E_err⟩ : ∃ q, Hid (q = codeName x.err) := ⟨_, rfl⟩
  rw [← E_err.out] at N_err z_err
  have N_qa : Hid (∀ (M' : Mm) (w1 : World), Has σ M' w1 → Calls Tryd.prog 19 #[.int .u64 (x.qa : Nat)] w1 fun r w' => r = .returned (.string (decU x.qa)) ∧ Has σ M' w') := fun M' w1 h => bits_all x.qa hx.qa w1 h
  have z_qa := decU_size hx.qa
  obtain ⟨n_qa, E_qa⟩ : ∃ q, Hid (q = decU x.qa) := ⟨_, rfl⟩
  rw [← E_qa.out] at N_qa z_qa
  have N_qb : Hid (∀ (M' : Mm) (w1 : World), Has σ M' w1 → Calls Tryd.prog 19 #[.int .u64 (x.qb : Nat)] w1 fun r w' => r = .returned (.string (decU x.qb)) ∧ Has σ M' w') := fun M' w1 h => bits_all x.qb hx.qb w1 h
  have z_qb := decU_size hx.qb
  obtain ⟨n_qb, E_qb⟩ : ∃ q, Hid (q = decU x.qb) := ⟨_, rfl⟩
  rw [← E_qb.out] at N_qb z_qb
  have N_n : Hid (∀ (M' : Mm) (w1 : World), Has σ M' w1 → Calls Tryd.prog 17 #[.int .i64 x.n] w1 fun r w' => r = .returned (.string (decI x.n)) ∧ Has σ M' w') := fun M' w1 h => number_all x.n hx.n.1 hx.n.2 h
  have z_n := decI_size hx.n.1 hx.n.2
  obtain ⟨n_n, E_n⟩ : ∃ q, Hid (q = decI x.n) := ⟨_, rfl⟩
  rw [← E_n.out] at N_n z_n
  have N_ak : Hid (∀ (M' : Mm) (w1 : World), Has σ M' w1 → Calls Tryd.prog 17 #[.int .i64 x.ak] w1 fun r w' => r = .returned (.string (decI x.ak)) ∧ Has σ M' w') := fun M' w1 h => number_all x.ak hx.ak.1 hx.ak.2 h
  have z_ak := decI_size hx.ak.1 hx.ak.2
  obtain ⟨n_ak, E_ak⟩ : ∃ q, Hid (q = decI x.ak) := ⟨_, rfl⟩
  rw [← E_ak.out] at N_ak z_ak
  have N_ah : Hid (∀ (M' : Mm) (w1 : World), Has σ M' w1 → Calls Tryd.prog 19 #[.int .u64 (x.ah : Nat)] w1 fun r w' => r = .returned (.string (decU x.ah)) ∧ Has σ M' w') := fun M' w1 h => bits_all x.ah hx.ah w1 h
  have z_ah := decU_size hx.ah
  obtain ⟨n_ah, E_ah⟩ : ∃ q, Hid (q = decU x.ah) := ⟨_, rfl⟩
  rw [← E_ah.out] at N_ah z_ah
  clear hx
  go_enter Tryd.func7, Tryd.ntmps7
  go_upto_region 1 with (first
    | ((with_reducible show wpList _ _ _ ({ dst := _, op := Op.box 31 _, type := _, pos := _, after := _, guard := _ } :: _) _ _); refine wpList_box_has h rfl 31 _ rfl ?_; clear h; intro b1 w h hn1; try simp only [Act.put, List.setIfInBounds_toArray, List.set_cons_zero, List.set_cons_succ]))
  generalize hM1 : M.upd b1 _ = M1 at h
  have hle : M.le M1 := by rw [← hM1]; exact Mm.le_upd' hn1 _
  have hb1 : M1 b1 = some (.cells x.cells 31) := by rw [← hM1]; exact Mm.upd_same _ _ _
  have HL := Lib.hid hle
  clear hM1 hn1 hle
  have d_t : x.cells[0]? = some (.int .i64 x.t) := rfl
  have d_wh : x.cells[1]? = some (.int .i64 x.wh) := rfl
  have d_th : x.cells[2]? = some (.int .i64 x.th) := rfl
  have d_hd : x.cells[17]? = some (.int .u64 (x.hd : Nat)) := rfl
  refine wp_region_class (Has σ M1) (by kernel_rfl) (by kernel_rfl) h.drew ?_
  clear h
  repeat (first
    | go_big_quiet_skip
    | (go_big_quiet_want; first
      | (refine quiet_load_has 3 _ rfl rfl hb1 d_t Tryd.underlying3 rfl ?_; simp only [Act.put, List.setIfInBounds_toArray, List.set_cons_zero, List.set_cons_succ]; go_big_quiet_on)
      | (refine quiet_load_has 3 _ rfl rfl hb1 d_th Tryd.underlying3 rfl ?_; simp only [Act.put, List.setIfInBounds_toArray, List.set_cons_zero, List.set_cons_succ]; go_big_quiet_on)
      | (go_big_quiet_op; first | go_big_quiet_on | go_big_quiet_call (first | with_reducible exact fun _ => rfl | with_reducible exact N_t.out M1 _ | with_reducible exact N_th.out M1 _))))
  refine wpQuiet_nil ?_
  try clear w
  intro w h
  go_upto_region 2 with (fail)
  have e4 : x.cells.extract 4 (4 + 7) = #[.int .i64 x.op, .int .i64 x.cl, .int .i64 x.key, .int .u64 (x.pa : Nat), .int .u64 (x.pb : Nat), .int .u64 (x.ch : Nat), .int .i64 x.reg] := rfl
  have e5 : x.cells.extract 11 (11 + 6) = #[.int .i64 x.err, .int .u64 (x.qa : Nat), .int .u64 (x.qb : Nat), .int .u64 (x.ah : Nat), .int .i64 x.n, .int .i64 x.ak] := rfl
  replace h := h.drew
  refine wp_region_held_drew (S := Has σ (M1)) (by kernel_rfl) (h) (fun hHeld => ?_)
  refine wpAnyH_take (i := 0) (v := ?_) rfl (by kernel_rfl) (by kernel_rfl) (by kernel_rfl) (fun _ _ _ h => h) (Or.inl ⟨by rfl, ?_⟩) hHeld ?_
  rotate_left
  · (intro wz _; go_simp; try with_reducible rfl)
  try simp only [List.getElem_toArray, List.getElem_cons_succ, List.getElem_cons_zero, Act.put, List.setIfInBounds_toArray, List.set_cons_zero, List.set_cons_succ]
  refine wpAnyH_take (i := 1) (v := _) rfl (by kernel_rfl) (by kernel_rfl) (by kernel_rfl) (fun _ _ _ h => h) (yields_agg rfl 26 _ rfl rfl hb1 e4 rfl Tryd.underlying26 rfl (by kernel_rfl)) hHeld ?_
  try simp only [List.getElem_toArray, List.getElem_cons_succ, List.getElem_cons_zero, Act.put, List.setIfInBounds_toArray, List.set_cons_zero, List.set_cons_succ]
  refine wpAnyH_take (i := 2) (v := ?_) rfl (by kernel_rfl) (by kernel_rfl) (by kernel_rfl) (fun _ _ _ h => h) (Or.inl ⟨by rfl, ?_⟩) hHeld ?_
  rotate_left
  · (intro wz _; go_simp; try with_reducible rfl)
  try simp only [List.getElem_toArray, List.getElem_cons_succ, List.getElem_cons_zero, Act.put, List.setIfInBounds_toArray, List.set_cons_zero, List.set_cons_succ]
  refine wpAnyH_take (i := 3) (v := _) rfl (by kernel_rfl) (by kernel_rfl) (by kernel_rfl) (fun _ _ _ h => h) (yields_agg rfl 29 _ rfl rfl hb1 e5 rfl Tryd.underlying29 rfl (by kernel_rfl)) hHeld ?_
  try simp only [List.getElem_toArray, List.getElem_cons_succ, List.getElem_cons_zero, Act.put, List.setIfInBounds_toArray, List.set_cons_zero, List.set_cons_succ]
  clear e4 e5
  generalize w.drew = w1 at h hHeld ⊢
  clear w
  obtain ⟨w, rfl⟩ : ∃ q : World, q = w1 := ⟨_, rfl⟩
  refine wpAnyH_ready (rs := [4, 5]) (by kernel_rfl) (by simp) ?_
  refine AllReadyH.cons rfl (fun K hK => ?_) (AllReadyH.cons rfl (fun K hK => ?_) AllReadyH.nil)
  · go_simp
    refine hK.out _ _ (h.quietAlloc _) (fun hHeld => ?_)
    clear hK K
    try simp only [Act.put, List.setIfInBounds_toArray, List.set_cons_zero, List.set_cons_succ]
    clear hHeld
    obtain ⟨M4, hbx, hle4, hba, hna⟩ := h.box (.cells #[.int .i64 0, .int .i64 0, .int .i64 0, .int .u64 0, .int .u64 0, .int .u64 0, .int .i64 0] 26)
    generalize w.alloc _ = wx at hbx ⊢
    generalize w.heap.size = b4 at hba hna ⊢
    clear h
    try clear w
    have h := hbx
    clear hbx
    obtain ⟨w, rfl⟩ : ∃ x : World, x = wx := ⟨_, rfl⟩
    have hHeld : Has σ M1 w := h.le hle4
    refine wpAnyH_ready (rs := [5]) (by kernel_rfl) (by simp) ?_
    refine AllReadyH.cons rfl (fun K hK => ?_) AllReadyH.nil
    go_simp
    refine hK.out _ _ ((h.quietAlloc _).le hle4) (fun hHeld => ?_)
    clear hK K
    try simp only [Act.put, List.setIfInBounds_toArray, List.set_cons_zero, List.set_cons_succ]
    clear hHeld
    obtain ⟨M5, hbx, hle5, hbb, hnb⟩ := h.box (.cells #[.int .i64 0, .int .u64 0, .int .u64 0, .int .u64 0, .int .i64 0, .int .i64 0] 29)
    generalize w.alloc _ = wx at hbx ⊢
    generalize w.heap.size = b5 at hbb hnb ⊢
    clear h
    try clear w
    have h := hbx
    clear hbx
    obtain ⟨w, rfl⟩ : ∃ x : World, x = wx := ⟨_, rfl⟩
    have hHeld : Has σ M1 w := h.le (Mm.le_trans hle4 hle5)
    have hab := Mm.ne_of hnb hba
    have hba := hle5 _ _ hba
    have h15 := Mm.none_of hle4 hnb
    have hle15 := Mm.le_trans hle4 hle5
    refine wpAnyH_ready (rs := [6]) (by kernel_rfl) (by simp) ?_
    refine AllReadyH.cons rfl (fun K hK => ?_) AllReadyH.nil
    (refine step_storeAll (cells := #[.int .i64 x.op, .int .i64 x.cl, .int .i64 x.key, .int .u64 (x.pa : Nat), .int .u64 (x.pb : Nat), .int .u64 (x.ch : Nat), .int .i64 x.reg]) h rfl 26 _ _ rfl rfl rfl hba rfl rfl (by kernel_rfl) rfl ?_; clear h; intro w h)
    refine hK.out _ _ (h.le (Mm.le_upd hle15 hna _)) (fun hHeld => ?_)
    clear hK K
    try simp only [Act.put, List.setIfInBounds_toArray, List.set_cons_zero, List.set_cons_succ]
    have hbo := (Mm.upd_ne (o := .cells #[.int .i64 x.op, .int .i64 x.cl, .int .i64 x.key, .int .u64 (x.pa : Nat), .int .u64 (x.pb : Nat), .int .u64 (x.ch : Nat), .int .i64 x.reg] 26) hab.symm).trans hbb
    refine wpAnyH_ready (rs := [7]) (by kernel_rfl) (by simp) ?_
    refine AllReadyH.cons rfl (fun K hK => ?_) AllReadyH.nil
    (refine step_storeAll (cells := #[.int .i64 x.err, .int .u64 (x.qa : Nat), .int .u64 (x.qb : Nat), .int .u64 (x.ah : Nat), .int .i64 x.n, .int .i64 x.ak]) h rfl 29 _ _ rfl rfl rfl hbo rfl rfl (by kernel_rfl) rfl ?_; clear h; intro w h)
    refine hK.out _ _ (h.le (Mm.le_upd (Mm.le_upd hle15 hna _) h15 _)) (fun hHeld => ?_)
    clear hK K
    try simp only [Act.put, List.setIfInBounds_toArray, List.set_cons_zero, List.set_cons_succ]
    have hleF := Mm.le_upd (Mm.le_upd hle15 hna (.cells #[.int .i64 x.op, .int .i64 x.cl, .int .i64 x.key, .int .u64 (x.pa : Nat), .int .u64 (x.pb : Nat), .int .u64 (x.ch : Nat), .int .i64 x.reg] 26)) h15 (.cells #[.int .i64 x.err, .int .u64 (x.qa : Nat), .int .u64 (x.qb : Nat), .int .u64 (x.ah : Nat), .int .i64 x.n, .int .i64 x.ak] 29)
    have hb4 := (Mm.upd_ne (M := M5.upd b4 (.cells #[.int .i64 x.op, .int .i64 x.cl, .int .i64 x.key, .int .u64 (x.pa : Nat), .int .u64 (x.pb : Nat), .int .u64 (x.ch : Nat), .int .i64 x.reg] 26)) (o := .cells #[.int .i64 x.err, .int .u64 (x.qa : Nat), .int .u64 (x.qb : Nat), .int .u64 (x.ah : Nat), .int .i64 x.n, .int .i64 x.ak] 29) hab).trans (Mm.upd_same M5 b4 (.cells #[.int .i64 x.op, .int .i64 x.cl, .int .i64 x.key, .int .u64 (x.pa : Nat), .int .u64 (x.pb : Nat), .int .u64 (x.ch : Nat), .int .i64 x.reg] 26))
    have hb5 := Mm.upd_same (M5.upd b4 (.cells #[.int .i64 x.op, .int .i64 x.cl, .int .i64 x.key, .int .u64 (x.pa : Nat), .int .u64 (x.pb : Nat), .int .u64 (x.ch : Nat), .int .i64 x.reg] 26)) b5 (.cells #[.int .i64 x.err, .int .u64 (x.qa : Nat), .int .u64 (x.qb : Nat), .int .u64 (x.ah : Nat), .int .i64 x.n, .int .i64 x.ak] 29)
    generalize (M5.upd b4 _).upd b5 _ = M7 at h hleF hb4 hb5
    clear hbo hba hbb hna hnb hab h15 hle15 hle4 hle5
    refine wpAnyH_done (by kernel_rfl) ?_ _
    replace hb1 := hleF _ _ hb1
    clear hHeld
    have d_err : (#[.int .i64 x.err, .int .u64 (x.qa : Nat), .int .u64 (x.qb : Nat), .int .u64 (x.ah : Nat), .int .i64 x.n, .int .i64 x.ak] : Array Value)[0]? = some (.int .i64 x.err) := rfl
    have d_qa : (#[.int .i64 x.err, .int .u64 (x.qa : Nat), .int .u64 (x.qb : Nat), .int .u64 (x.ah : Nat), .int .i64 x.n, .int .i64 x.ak] : Array Value)[1]? = some (.int .u64 (x.qa : Nat)) := rfl
    have d_qb : (#[.int .i64 x.err, .int .u64 (x.qa : Nat), .int .u64 (x.qb : Nat), .int .u64 (x.ah : Nat), .int .i64 x.n, .int .i64 x.ak] : Array Value)[2]? = some (.int .u64 (x.qb : Nat)) := rfl
    have d_ah : (#[.int .i64 x.err, .int .u64 (x.qa : Nat), .int .u64 (x.qb : Nat), .int .u64 (x.ah : Nat), .int .i64 x.n, .int .i64 x.ak] : Array Value)[3]? = some (.int .u64 (x.ah : Nat)) := rfl
    have d_n : (#[.int .i64 x.err, .int .u64 (x.qa : Nat), .int .u64 (x.qb : Nat), .int .u64 (x.ah : Nat), .int .i64 x.n, .int .i64 x.ak] : Array Value)[4]? = some (.int .i64 x.n) := rfl
    have d_ak : (#[.int .i64 x.err, .int .u64 (x.qa : Nat), .int .u64 (x.qb : Nat), .int .u64 (x.ah : Nat), .int .i64 x.n, .int .i64 x.ak] : Array Value)[5]? = some (.int .i64 x.ak) := rfl
    go_upto_region 7 with (first
      | (with_reducible show wpList _ _ _ ({ dst := _, op := Op.load 3 _, type := _, pos := _, after := _, guard := _ } :: _) _ _; refine wpList_load1_has h rfl 3 _ rfl rfl hb1 d_wh Tryd.underlying3 rfl ?_))
    refine wp_region_class (Has σ M7) (by kernel_rfl) (by kernel_rfl) h.drew ?_
    clear h
    repeat (first
      | go_big_quiet_skip
      | (go_big_quiet_want; first
        | (refine quiet_load_has 27 _ rfl rfl hb5 d_err Tryd.underlying27 rfl ?_; simp only [Act.put, List.setIfInBounds_toArray, List.set_cons_zero, List.set_cons_succ]; go_big_quiet_on)
        | (refine quiet_load_has 22 _ rfl rfl hb5 d_qa Tryd.underlying22 rfl ?_; simp only [Act.put, List.setIfInBounds_toArray, List.set_cons_zero, List.set_cons_succ]; go_big_quiet_on)
        | (refine quiet_load_has 22 _ rfl rfl hb5 d_qb Tryd.underlying22 rfl ?_; simp only [Act.put, List.setIfInBounds_toArray, List.set_cons_zero, List.set_cons_succ]; go_big_quiet_on)
        | (refine quiet_load_has 22 _ rfl rfl hb5 d_ah Tryd.underlying22 rfl ?_; simp only [Act.put, List.setIfInBounds_toArray, List.set_cons_zero, List.set_cons_succ]; go_big_quiet_on)
        | (refine quiet_load_has 3 _ rfl rfl hb5 d_n Tryd.underlying3 rfl ?_; simp only [Act.put, List.setIfInBounds_toArray, List.set_cons_zero, List.set_cons_succ]; go_big_quiet_on)
        | (refine quiet_load_has 2 _ rfl rfl hb5 d_ak Tryd.underlying2 rfl ?_; simp only [Act.put, List.setIfInBounds_toArray, List.set_cons_zero, List.set_cons_succ]; go_big_quiet_on)
        | (go_big_quiet_op; first | go_big_quiet_on | go_big_quiet_call (first | with_reducible exact fun _ => rfl | with_reducible exact N_err.out M7 _ | with_reducible exact N_qa.out M7 _ | with_reducible exact N_qb.out M7 _ | with_reducible exact N_n.out M7 _ | with_reducible exact N_ak.out M7 _ | with_reducible exact N_ah.out M7 _))))
    refine wpQuiet_nil ?_
    try clear w
    intro w h
    go_wp2
    go_ret
    refine ⟨?_, h.le (Mm.le_trans HL.out hleF)⟩
    unfold refLine1 preR
    rw [← E_t.out, ← E_th.out, ← E_err.out, ← E_qa.out, ← E_qb.out, ← E_n.out, ← E_ak.out, ← E_ah.out]
    rfl
  · go_simp
    refine hK.out _ _ (h.quietAlloc _) (fun hHeld => ?_)
    clear hK K
    try simp only [Act.put, List.setIfInBounds_toArray, List.set_cons_zero, List.set_cons_succ]
    clear hHeld
    obtain ⟨M4, hbx, hle4, hba, hna⟩ := h.box (.cells #[.int .i64 0, .int .u64 0, .int .u64 0, .int .u64 0, .int .i64 0, .int .i64 0] 29)
    generalize w.alloc _ = wx at hbx ⊢
    generalize w.heap.size = b5 at hba hna ⊢
    clear h
    try clear w
    have h := hbx
    clear hbx
    obtain ⟨w, rfl⟩ : ∃ x : World, x = wx := ⟨_, rfl⟩
    have hHeld : Has σ M1 w := h.le hle4
    refine wpAnyH_ready (rs := [4]) (by kernel_rfl) (by simp) ?_
    refine AllReadyH.cons rfl (fun K hK => ?_) AllReadyH.nil
    go_simp
    refine hK.out _ _ ((h.quietAlloc _).le hle4) (fun hHeld => ?_)
    clear hK K
    try simp only [Act.put, List.setIfInBounds_toArray, List.set_cons_zero, List.set_cons_succ]
    clear hHeld
    obtain ⟨M5, hbx, hle5, hbb, hnb⟩ := h.box (.cells #[.int .i64 0, .int .i64 0, .int .i64 0, .int .u64 0, .int .u64 0, .int .u64 0, .int .i64 0] 26)
    generalize w.alloc _ = wx at hbx ⊢
    generalize w.heap.size = b4 at hbb hnb ⊢
    clear h
    try clear w
    have h := hbx
    clear hbx
    obtain ⟨w, rfl⟩ : ∃ x : World, x = wx := ⟨_, rfl⟩
    have hHeld : Has σ M1 w := h.le (Mm.le_trans hle4 hle5)
    have hab := Mm.ne_of hnb hba
    have hba := hle5 _ _ hba
    have h15 := Mm.none_of hle4 hnb
    have hle15 := Mm.le_trans hle4 hle5
    refine wpAnyH_ready (rs := [6]) (by kernel_rfl) (by simp) ?_
    refine AllReadyH.cons rfl (fun K hK => ?_) AllReadyH.nil
    (refine step_storeAll (cells := #[.int .i64 x.op, .int .i64 x.cl, .int .i64 x.key, .int .u64 (x.pa : Nat), .int .u64 (x.pb : Nat), .int .u64 (x.ch : Nat), .int .i64 x.reg]) h rfl 26 _ _ rfl rfl rfl hbb rfl rfl (by kernel_rfl) rfl ?_; clear h; intro w h)
    refine hK.out _ _ (h.le (Mm.le_upd hle15 h15 _)) (fun hHeld => ?_)
    clear hK K
    try simp only [Act.put, List.setIfInBounds_toArray, List.set_cons_zero, List.set_cons_succ]
    have hbo := (Mm.upd_ne (o := .cells #[.int .i64 x.op, .int .i64 x.cl, .int .i64 x.key, .int .u64 (x.pa : Nat), .int .u64 (x.pb : Nat), .int .u64 (x.ch : Nat), .int .i64 x.reg] 26) hab).trans hba
    refine wpAnyH_ready (rs := [7]) (by kernel_rfl) (by simp) ?_
    refine AllReadyH.cons rfl (fun K hK => ?_) AllReadyH.nil
    (refine step_storeAll (cells := #[.int .i64 x.err, .int .u64 (x.qa : Nat), .int .u64 (x.qb : Nat), .int .u64 (x.ah : Nat), .int .i64 x.n, .int .i64 x.ak]) h rfl 29 _ _ rfl rfl rfl hbo rfl rfl (by kernel_rfl) rfl ?_; clear h; intro w h)
    refine hK.out _ _ (h.le (Mm.le_upd (Mm.le_upd hle15 h15 _) hna _)) (fun hHeld => ?_)
    clear hK K
    try simp only [Act.put, List.setIfInBounds_toArray, List.set_cons_zero, List.set_cons_succ]
    have hleF := Mm.le_upd (Mm.le_upd hle15 h15 (.cells #[.int .i64 x.op, .int .i64 x.cl, .int .i64 x.key, .int .u64 (x.pa : Nat), .int .u64 (x.pb : Nat), .int .u64 (x.ch : Nat), .int .i64 x.reg] 26)) hna (.cells #[.int .i64 x.err, .int .u64 (x.qa : Nat), .int .u64 (x.qb : Nat), .int .u64 (x.ah : Nat), .int .i64 x.n, .int .i64 x.ak] 29)
    have hb4 := (Mm.upd_ne (M := M5.upd b4 (.cells #[.int .i64 x.op, .int .i64 x.cl, .int .i64 x.key, .int .u64 (x.pa : Nat), .int .u64 (x.pb : Nat), .int .u64 (x.ch : Nat), .int .i64 x.reg] 26)) (o := .cells #[.int .i64 x.err, .int .u64 (x.qa : Nat), .int .u64 (x.qb : Nat), .int .u64 (x.ah : Nat), .int .i64 x.n, .int .i64 x.ak] 29) hab.symm).trans (Mm.upd_same M5 b4 (.cells #[.int .i64 x.op, .int .i64 x.cl, .int .i64 x.key, .int .u64 (x.pa : Nat), .int .u64 (x.pb : Nat), .int .u64 (x.ch : Nat), .int .i64 x.reg] 26))
    have hb5 := Mm.upd_same (M5.upd b4 (.cells #[.int .i64 x.op, .int .i64 x.cl, .int .i64 x.key, .int .u64 (x.pa : Nat), .int .u64 (x.pb : Nat), .int .u64 (x.ch : Nat), .int .i64 x.reg] 26)) b5 (.cells #[.int .i64 x.err, .int .u64 (x.qa : Nat), .int .u64 (x.qb : Nat), .int .u64 (x.ah : Nat), .int .i64 x.n, .int .i64 x.ak] 29)
    generalize (M5.upd b4 _).upd b5 _ = M7 at h hleF hb4 hb5
    clear hbo hba hbb hna hnb hab h15 hle15 hle4 hle5
    refine wpAnyH_done (by kernel_rfl) ?_ _
    replace hb1 := hleF _ _ hb1
    clear hHeld
    have d_err : (#[.int .i64 x.err, .int .u64 (x.qa : Nat), .int .u64 (x.qb : Nat), .int .u64 (x.ah : Nat), .int .i64 x.n, .int .i64 x.ak] : Array Value)[0]? = some (.int .i64 x.err) := rfl
    have d_qa : (#[.int .i64 x.err, .int .u64 (x.qa : Nat), .int .u64 (x.qb : Nat), .int .u64 (x.ah : Nat), .int .i64 x.n, .int .i64 x.ak] : Array Value)[1]? = some (.int .u64 (x.qa : Nat)) := rfl
    have d_qb : (#[.int .i64 x.err, .int .u64 (x.qa : Nat), .int .u64 (x.qb : Nat), .int .u64 (x.ah : Nat), .int .i64 x.n, .int .i64 x.ak] : Array Value)[2]? = some (.int .u64 (x.qb : Nat)) := rfl
    have d_ah : (#[.int .i64 x.err, .int .u64 (x.qa : Nat), .int .u64 (x.qb : Nat), .int .u64 (x.ah : Nat), .int .i64 x.n, .int .i64 x.ak] : Array Value)[3]? = some (.int .u64 (x.ah : Nat)) := rfl
    have d_n : (#[.int .i64 x.err, .int .u64 (x.qa : Nat), .int .u64 (x.qb : Nat), .int .u64 (x.ah : Nat), .int .i64 x.n, .int .i64 x.ak] : Array Value)[4]? = some (.int .i64 x.n) := rfl
    have d_ak : (#[.int .i64 x.err, .int .u64 (x.qa : Nat), .int .u64 (x.qb : Nat), .int .u64 (x.ah : Nat), .int .i64 x.n, .int .i64 x.ak] : Array Value)[5]? = some (.int .i64 x.ak) := rfl
    go_upto_region 7 with (first
      | (with_reducible show wpList _ _ _ ({ dst := _, op := Op.load 3 _, type := _, pos := _, after := _, guard := _ } :: _) _ _; refine wpList_load1_has h rfl 3 _ rfl rfl hb1 d_wh Tryd.underlying3 rfl ?_))
    refine wp_region_class (Has σ M7) (by kernel_rfl) (by kernel_rfl) h.drew ?_
    clear h
    repeat (first
      | go_big_quiet_skip
      | (go_big_quiet_want; first
        | (refine quiet_load_has 27 _ rfl rfl hb5 d_err Tryd.underlying27 rfl ?_; simp only [Act.put, List.setIfInBounds_toArray, List.set_cons_zero, List.set_cons_succ]; go_big_quiet_on)
        | (refine quiet_load_has 22 _ rfl rfl hb5 d_qa Tryd.underlying22 rfl ?_; simp only [Act.put, List.setIfInBounds_toArray, List.set_cons_zero, List.set_cons_succ]; go_big_quiet_on)
        | (refine quiet_load_has 22 _ rfl rfl hb5 d_qb Tryd.underlying22 rfl ?_; simp only [Act.put, List.setIfInBounds_toArray, List.set_cons_zero, List.set_cons_succ]; go_big_quiet_on)
        | (refine quiet_load_has 22 _ rfl rfl hb5 d_ah Tryd.underlying22 rfl ?_; simp only [Act.put, List.setIfInBounds_toArray, List.set_cons_zero, List.set_cons_succ]; go_big_quiet_on)
        | (refine quiet_load_has 3 _ rfl rfl hb5 d_n Tryd.underlying3 rfl ?_; simp only [Act.put, List.setIfInBounds_toArray, List.set_cons_zero, List.set_cons_succ]; go_big_quiet_on)
        | (refine quiet_load_has 2 _ rfl rfl hb5 d_ak Tryd.underlying2 rfl ?_; simp only [Act.put, List.setIfInBounds_toArray, List.set_cons_zero, List.set_cons_succ]; go_big_quiet_on)
        | (go_big_quiet_op; first | go_big_quiet_on | go_big_quiet_call (first | with_reducible exact fun _ => rfl | with_reducible exact N_err.out M7 _ | with_reducible exact N_qa.out M7 _ | with_reducible exact N_qb.out M7 _ | with_reducible exact N_n.out M7 _ | with_reducible exact N_ak.out M7 _ | with_reducible exact N_ah.out M7 _))))
    refine wpQuiet_nil ?_
    try clear w
    intro w h
    go_wp2
    go_ret
    refine ⟨?_, h.le (Mm.le_trans HL.out hleF)⟩
    unfold refLine1 preR
    rw [← E_t.out, ← E_th.out, ← E_err.out, ← E_qa.out, ← E_qb.out, ← E_n.out, ← E_ak.out, ← E_ah.out]
    rfl

set_option maxHeartbeats 4000000 in
theorem refLine_2 {σ w : World} {M : Mm} (h : Has σ M w) (x : Sn) (hx : x.Ok) (hw0 : ¬ x.wh = 0) (hw1 : ¬ x.wh = 1) :
    Calls Tryd.prog 7 #[.agg x.cells] w fun r w' => r = .returned (.string (refLine2 x)) ∧ Has σ M w' := by
  have g0 : (x.wh == 0) = false := beq_eq_false_iff_ne.2 hw0
  have g1 : (x.wh == 1) = false := beq_eq_false_iff_ne.2 hw1
  clear hw0 hw1
  have N_t : Hid (∀ (M' : Mm) (w1 : World), Has σ M' w1 → Calls Tryd.prog 17 #[.int .i64 x.t] w1 fun r w' => r = .returned (.string (decI x.t)) ∧ Has σ M' w') := fun M' w1 h => number_all x.t hx.t.1 hx.t.2 h
  have z_t := decI_size hx.t.1 hx.t.2
  obtain ⟨n_t, E_t⟩ : ∃ q, Hid (q = decI x.t) := ⟨_, rfl⟩
  rw [← E_t.out] at N_t z_t
  have N_th : Hid (∀ (M' : Mm) (w1 : World), Has σ M' w1 → Calls Tryd.prog 17 #[.int .i64 x.th] w1 fun r w' => r = .returned (.string (decI x.th)) ∧ Has σ M' w') := fun M' w1 h => number_all x.th hx.th.1 hx.th.2 h
  have z_th := decI_size hx.th.1 hx.th.2
  obtain ⟨n_th, E_th⟩ : ∃ q, Hid (q = decI x.th) := ⟨_, rfl⟩
  rw [← E_th.out] at N_th z_th
  have N_hd : Hid (∀ (M' : Mm) (w1 : World), Has σ M' w1 → Calls Tryd.prog 19 #[.int .u64 (x.hd : Nat)] w1 fun r w' => r = .returned (.string (decU x.hd)) ∧ Has σ M' w') := fun M' w1 h => bits_all x.hd hx.hd w1 h
  have z_hd := decU_size hx.hd
  obtain ⟨n_hd, E_hd⟩ : ∃ q, Hid (q = decU x.hd) := ⟨_, rfl⟩
  rw [← E_hd.out] at N_hd z_hd
  clear hx
  go_enter Tryd.func7, Tryd.ntmps7
  go_upto_region 1 with (first
    | ((with_reducible show wpList _ _ _ ({ dst := _, op := Op.box 31 _, type := _, pos := _, after := _, guard := _ } :: _) _ _); refine wpList_box_has h rfl 31 _ rfl ?_; clear h; intro b1 w h hn1; try simp only [Act.put, List.setIfInBounds_toArray, List.set_cons_zero, List.set_cons_succ]))
  generalize hM1 : M.upd b1 _ = M1 at h
  have hle : M.le M1 := by rw [← hM1]; exact Mm.le_upd' hn1 _
  have hb1 : M1 b1 = some (.cells x.cells 31) := by rw [← hM1]; exact Mm.upd_same _ _ _
  have HL := Lib.hid hle
  clear hM1 hn1 hle
  have d_t : x.cells[0]? = some (.int .i64 x.t) := rfl
  have d_wh : x.cells[1]? = some (.int .i64 x.wh) := rfl
  have d_th : x.cells[2]? = some (.int .i64 x.th) := rfl
  have d_hd : x.cells[17]? = some (.int .u64 (x.hd : Nat)) := rfl
  refine wp_region_class (Has σ M1) (by kernel_rfl) (by kernel_rfl) h.drew ?_
  clear h
  repeat (first
    | go_big_quiet_skip
    | (go_big_quiet_want; first
      | (refine quiet_load_has 3 _ rfl rfl hb1 d_t Tryd.underlying3 rfl ?_; simp only [Act.put, List.setIfInBounds_toArray, List.set_cons_zero, List.set_cons_succ]; go_big_quiet_on)
      | (refine quiet_load_has 3 _ rfl rfl hb1 d_th Tryd.underlying3 rfl ?_; simp only [Act.put, List.setIfInBounds_toArray, List.set_cons_zero, List.set_cons_succ]; go_big_quiet_on)
      | (go_big_quiet_op; first | go_big_quiet_on | go_big_quiet_call (first | with_reducible exact fun _ => rfl | with_reducible exact N_t.out M1 _ | with_reducible exact N_th.out M1 _))))
  refine wpQuiet_nil ?_
  try clear w
  intro w h
  go_upto_region 2 with (fail)
  have e4 : x.cells.extract 4 (4 + 7) = #[.int .i64 x.op, .int .i64 x.cl, .int .i64 x.key, .int .u64 (x.pa : Nat), .int .u64 (x.pb : Nat), .int .u64 (x.ch : Nat), .int .i64 x.reg] := rfl
  have e5 : x.cells.extract 11 (11 + 6) = #[.int .i64 x.err, .int .u64 (x.qa : Nat), .int .u64 (x.qb : Nat), .int .u64 (x.ah : Nat), .int .i64 x.n, .int .i64 x.ak] := rfl
  replace h := h.drew
  refine wp_region_held_drew (S := Has σ (M1)) (by kernel_rfl) (h) (fun hHeld => ?_)
  refine wpAnyH_take (i := 0) (v := ?_) rfl (by kernel_rfl) (by kernel_rfl) (by kernel_rfl) (fun _ _ _ h => h) (Or.inl ⟨by rfl, ?_⟩) hHeld ?_
  rotate_left
  · (intro wz _; go_simp; try with_reducible rfl)
  try simp only [List.getElem_toArray, List.getElem_cons_succ, List.getElem_cons_zero, Act.put, List.setIfInBounds_toArray, List.set_cons_zero, List.set_cons_succ]
  refine wpAnyH_take (i := 1) (v := _) rfl (by kernel_rfl) (by kernel_rfl) (by kernel_rfl) (fun _ _ _ h => h) (yields_agg rfl 26 _ rfl rfl hb1 e4 rfl Tryd.underlying26 rfl (by kernel_rfl)) hHeld ?_
  try simp only [List.getElem_toArray, List.getElem_cons_succ, List.getElem_cons_zero, Act.put, List.setIfInBounds_toArray, List.set_cons_zero, List.set_cons_succ]
  refine wpAnyH_take (i := 2) (v := ?_) rfl (by kernel_rfl) (by kernel_rfl) (by kernel_rfl) (fun _ _ _ h => h) (Or.inl ⟨by rfl, ?_⟩) hHeld ?_
  rotate_left
  · (intro wz _; go_simp; try with_reducible rfl)
  try simp only [List.getElem_toArray, List.getElem_cons_succ, List.getElem_cons_zero, Act.put, List.setIfInBounds_toArray, List.set_cons_zero, List.set_cons_succ]
  refine wpAnyH_take (i := 3) (v := _) rfl (by kernel_rfl) (by kernel_rfl) (by kernel_rfl) (fun _ _ _ h => h) (yields_agg rfl 29 _ rfl rfl hb1 e5 rfl Tryd.underlying29 rfl (by kernel_rfl)) hHeld ?_
  try simp only [List.getElem_toArray, List.getElem_cons_succ, List.getElem_cons_zero, Act.put, List.setIfInBounds_toArray, List.set_cons_zero, List.set_cons_succ]
  clear e4 e5
  generalize w.drew = w1 at h hHeld ⊢
  clear w
  obtain ⟨w, rfl⟩ : ∃ q : World, q = w1 := ⟨_, rfl⟩
  refine wpAnyH_ready (rs := [4, 5]) (by kernel_rfl) (by simp) ?_
  refine AllReadyH.cons rfl (fun K hK => ?_) (AllReadyH.cons rfl (fun K hK => ?_) AllReadyH.nil)
  · go_simp
    refine hK.out _ _ (h.quietAlloc _) (fun hHeld => ?_)
    clear hK K
    try simp only [Act.put, List.setIfInBounds_toArray, List.set_cons_zero, List.set_cons_succ]
    clear hHeld
    obtain ⟨M4, hbx, hle4, hba, hna⟩ := h.box (.cells #[.int .i64 0, .int .i64 0, .int .i64 0, .int .u64 0, .int .u64 0, .int .u64 0, .int .i64 0] 26)
    generalize w.alloc _ = wx at hbx ⊢
    generalize w.heap.size = b4 at hba hna ⊢
    clear h
    try clear w
    have h := hbx
    clear hbx
    obtain ⟨w, rfl⟩ : ∃ x : World, x = wx := ⟨_, rfl⟩
    have hHeld : Has σ M1 w := h.le hle4
    refine wpAnyH_ready (rs := [5]) (by kernel_rfl) (by simp) ?_
    refine AllReadyH.cons rfl (fun K hK => ?_) AllReadyH.nil
    go_simp
    refine hK.out _ _ ((h.quietAlloc _).le hle4) (fun hHeld => ?_)
    clear hK K
    try simp only [Act.put, List.setIfInBounds_toArray, List.set_cons_zero, List.set_cons_succ]
    clear hHeld
    obtain ⟨M5, hbx, hle5, hbb, hnb⟩ := h.box (.cells #[.int .i64 0, .int .u64 0, .int .u64 0, .int .u64 0, .int .i64 0, .int .i64 0] 29)
    generalize w.alloc _ = wx at hbx ⊢
    generalize w.heap.size = b5 at hbb hnb ⊢
    clear h
    try clear w
    have h := hbx
    clear hbx
    obtain ⟨w, rfl⟩ : ∃ x : World, x = wx := ⟨_, rfl⟩
    have hHeld : Has σ M1 w := h.le (Mm.le_trans hle4 hle5)
    have hab := Mm.ne_of hnb hba
    have hba := hle5 _ _ hba
    have h15 := Mm.none_of hle4 hnb
    have hle15 := Mm.le_trans hle4 hle5
    refine wpAnyH_ready (rs := [6]) (by kernel_rfl) (by simp) ?_
    refine AllReadyH.cons rfl (fun K hK => ?_) AllReadyH.nil
    (refine step_storeAll (cells := #[.int .i64 x.op, .int .i64 x.cl, .int .i64 x.key, .int .u64 (x.pa : Nat), .int .u64 (x.pb : Nat), .int .u64 (x.ch : Nat), .int .i64 x.reg]) h rfl 26 _ _ rfl rfl rfl hba rfl rfl (by kernel_rfl) rfl ?_; clear h; intro w h)
    refine hK.out _ _ (h.le (Mm.le_upd hle15 hna _)) (fun hHeld => ?_)
    clear hK K
    try simp only [Act.put, List.setIfInBounds_toArray, List.set_cons_zero, List.set_cons_succ]
    have hbo := (Mm.upd_ne (o := .cells #[.int .i64 x.op, .int .i64 x.cl, .int .i64 x.key, .int .u64 (x.pa : Nat), .int .u64 (x.pb : Nat), .int .u64 (x.ch : Nat), .int .i64 x.reg] 26) hab.symm).trans hbb
    refine wpAnyH_ready (rs := [7]) (by kernel_rfl) (by simp) ?_
    refine AllReadyH.cons rfl (fun K hK => ?_) AllReadyH.nil
    (refine step_storeAll (cells := #[.int .i64 x.err, .int .u64 (x.qa : Nat), .int .u64 (x.qb : Nat), .int .u64 (x.ah : Nat), .int .i64 x.n, .int .i64 x.ak]) h rfl 29 _ _ rfl rfl rfl hbo rfl rfl (by kernel_rfl) rfl ?_; clear h; intro w h)
    refine hK.out _ _ (h.le (Mm.le_upd (Mm.le_upd hle15 hna _) h15 _)) (fun hHeld => ?_)
    clear hK K
    try simp only [Act.put, List.setIfInBounds_toArray, List.set_cons_zero, List.set_cons_succ]
    have hleF := Mm.le_upd (Mm.le_upd hle15 hna (.cells #[.int .i64 x.op, .int .i64 x.cl, .int .i64 x.key, .int .u64 (x.pa : Nat), .int .u64 (x.pb : Nat), .int .u64 (x.ch : Nat), .int .i64 x.reg] 26)) h15 (.cells #[.int .i64 x.err, .int .u64 (x.qa : Nat), .int .u64 (x.qb : Nat), .int .u64 (x.ah : Nat), .int .i64 x.n, .int .i64 x.ak] 29)
    have hb4 := (Mm.upd_ne (M := M5.upd b4 (.cells #[.int .i64 x.op, .int .i64 x.cl, .int .i64 x.key, .int .u64 (x.pa : Nat), .int .u64 (x.pb : Nat), .int .u64 (x.ch : Nat), .int .i64 x.reg] 26)) (o := .cells #[.int .i64 x.err, .int .u64 (x.qa : Nat), .int .u64 (x.qb : Nat), .int .u64 (x.ah : Nat), .int .i64 x.n, .int .i64 x.ak] 29) hab).trans (Mm.upd_same M5 b4 (.cells #[.int .i64 x.op, .int .i64 x.cl, .int .i64 x.key, .int .u64 (x.pa : Nat), .int .u64 (x.pb : Nat), .int .u64 (x.ch : Nat), .int .i64 x.reg] 26))
    have hb5 := Mm.upd_same (M5.upd b4 (.cells #[.int .i64 x.op, .int .i64 x.cl, .int .i64 x.key, .int .u64 (x.pa : Nat), .int .u64 (x.pb : Nat), .int .u64 (x.ch : Nat), .int .i64 x.reg] 26)) b5 (.cells #[.int .i64 x.err, .int .u64 (x.qa : Nat), .int .u64 (x.qb : Nat), .int .u64 (x.ah : Nat), .int .i64 x.n, .int .i64 x.ak] 29)
    generalize (M5.upd b4 _).upd b5 _ = M7 at h hleF hb4 hb5
    clear hbo hba hbb hna hnb hab h15 hle15 hle4 hle5
    refine wpAnyH_done (by kernel_rfl) ?_ _
    replace hb1 := hleF _ _ hb1
    clear hHeld
    have d_hd : (x.cells : Array Value)[17]? = some (.int .u64 (x.hd : Nat)) := rfl
    go_upto_region 8 with (first
      | (with_reducible show wpList _ _ _ ({ dst := _, op := Op.load 3 _, type := _, pos := _, after := _, guard := _ } :: _) _ _; refine wpList_load1_has h rfl 3 _ rfl rfl hb1 d_wh Tryd.underlying3 rfl ?_))
    go_wp2_with (first
      | (with_reducible show wpList _ _ _ ({ dst := _, op := Op.load 22 _, type := _, pos := _, after := _, guard := _ } :: _) _ _; refine wpList_load1_has h rfl 22 _ rfl rfl hb1 d_hd Tryd.underlying22 rfl ?_)
      | (go_at_call 19; refine (N_hd.out M7 _ h).mono ?_; clear h; rintro r w ⟨rfl, h⟩))
    go_ret
    refine ⟨?_, h.le (Mm.le_trans HL.out hleF)⟩
    unfold refLine2 preR
    rw [← E_t.out, ← E_th.out, ← E_hd.out]
    rfl
  · go_simp
    refine hK.out _ _ (h.quietAlloc _) (fun hHeld => ?_)
    clear hK K
    try simp only [Act.put, List.setIfInBounds_toArray, List.set_cons_zero, List.set_cons_succ]
    clear hHeld
    obtain ⟨M4, hbx, hle4, hba, hna⟩ := h.box (.cells #[.int .i64 0, .int .u64 0, .int .u64 0, .int .u64 0, .int .i64 0, .int .i64 0] 29)
    generalize w.alloc _ = wx at hbx ⊢
    generalize w.heap.size = b5 at hba hna ⊢
    clear h
    try clear w
    have h := hbx
    clear hbx
    obtain ⟨w, rfl⟩ : ∃ x : World, x = wx := ⟨_, rfl⟩
    have hHeld : Has σ M1 w := h.le hle4
    refine wpAnyH_ready (rs := [4]) (by kernel_rfl) (by simp) ?_
    refine AllReadyH.cons rfl (fun K hK => ?_) AllReadyH.nil
    go_simp
    refine hK.out _ _ ((h.quietAlloc _).le hle4) (fun hHeld => ?_)
    clear hK K
    try simp only [Act.put, List.setIfInBounds_toArray, List.set_cons_zero, List.set_cons_succ]
    clear hHeld
    obtain ⟨M5, hbx, hle5, hbb, hnb⟩ := h.box (.cells #[.int .i64 0, .int .i64 0, .int .i64 0, .int .u64 0, .int .u64 0, .int .u64 0, .int .i64 0] 26)
    generalize w.alloc _ = wx at hbx ⊢
    generalize w.heap.size = b4 at hbb hnb ⊢
    clear h
    try clear w
    have h := hbx
    clear hbx
    obtain ⟨w, rfl⟩ : ∃ x : World, x = wx := ⟨_, rfl⟩
    have hHeld : Has σ M1 w := h.le (Mm.le_trans hle4 hle5)
    have hab := Mm.ne_of hnb hba
    have hba := hle5 _ _ hba
    have h15 := Mm.none_of hle4 hnb
    have hle15 := Mm.le_trans hle4 hle5
    refine wpAnyH_ready (rs := [6]) (by kernel_rfl) (by simp) ?_
    refine AllReadyH.cons rfl (fun K hK => ?_) AllReadyH.nil
    (refine step_storeAll (cells := #[.int .i64 x.op, .int .i64 x.cl, .int .i64 x.key, .int .u64 (x.pa : Nat), .int .u64 (x.pb : Nat), .int .u64 (x.ch : Nat), .int .i64 x.reg]) h rfl 26 _ _ rfl rfl rfl hbb rfl rfl (by kernel_rfl) rfl ?_; clear h; intro w h)
    refine hK.out _ _ (h.le (Mm.le_upd hle15 h15 _)) (fun hHeld => ?_)
    clear hK K
    try simp only [Act.put, List.setIfInBounds_toArray, List.set_cons_zero, List.set_cons_succ]
    have hbo := (Mm.upd_ne (o := .cells #[.int .i64 x.op, .int .i64 x.cl, .int .i64 x.key, .int .u64 (x.pa : Nat), .int .u64 (x.pb : Nat), .int .u64 (x.ch : Nat), .int .i64 x.reg] 26) hab).trans hba
    refine wpAnyH_ready (rs := [7]) (by kernel_rfl) (by simp) ?_
    refine AllReadyH.cons rfl (fun K hK => ?_) AllReadyH.nil
    (refine step_storeAll (cells := #[.int .i64 x.err, .int .u64 (x.qa : Nat), .int .u64 (x.qb : Nat), .int .u64 (x.ah : Nat), .int .i64 x.n, .int .i64 x.ak]) h rfl 29 _ _ rfl rfl rfl hbo rfl rfl (by kernel_rfl) rfl ?_; clear h; intro w h)
    refine hK.out _ _ (h.le (Mm.le_upd (Mm.le_upd hle15 h15 _) hna _)) (fun hHeld => ?_)
    clear hK K
    try simp only [Act.put, List.setIfInBounds_toArray, List.set_cons_zero, List.set_cons_succ]
    have hleF := Mm.le_upd (Mm.le_upd hle15 h15 (.cells #[.int .i64 x.op, .int .i64 x.cl, .int .i64 x.key, .int .u64 (x.pa : Nat), .int .u64 (x.pb : Nat), .int .u64 (x.ch : Nat), .int .i64 x.reg] 26)) hna (.cells #[.int .i64 x.err, .int .u64 (x.qa : Nat), .int .u64 (x.qb : Nat), .int .u64 (x.ah : Nat), .int .i64 x.n, .int .i64 x.ak] 29)
    have hb4 := (Mm.upd_ne (M := M5.upd b4 (.cells #[.int .i64 x.op, .int .i64 x.cl, .int .i64 x.key, .int .u64 (x.pa : Nat), .int .u64 (x.pb : Nat), .int .u64 (x.ch : Nat), .int .i64 x.reg] 26)) (o := .cells #[.int .i64 x.err, .int .u64 (x.qa : Nat), .int .u64 (x.qb : Nat), .int .u64 (x.ah : Nat), .int .i64 x.n, .int .i64 x.ak] 29) hab.symm).trans (Mm.upd_same M5 b4 (.cells #[.int .i64 x.op, .int .i64 x.cl, .int .i64 x.key, .int .u64 (x.pa : Nat), .int .u64 (x.pb : Nat), .int .u64 (x.ch : Nat), .int .i64 x.reg] 26))
    have hb5 := Mm.upd_same (M5.upd b4 (.cells #[.int .i64 x.op, .int .i64 x.cl, .int .i64 x.key, .int .u64 (x.pa : Nat), .int .u64 (x.pb : Nat), .int .u64 (x.ch : Nat), .int .i64 x.reg] 26)) b5 (.cells #[.int .i64 x.err, .int .u64 (x.qa : Nat), .int .u64 (x.qb : Nat), .int .u64 (x.ah : Nat), .int .i64 x.n, .int .i64 x.ak] 29)
    generalize (M5.upd b4 _).upd b5 _ = M7 at h hleF hb4 hb5
    clear hbo hba hbb hna hnb hab h15 hle15 hle4 hle5
    refine wpAnyH_done (by kernel_rfl) ?_ _
    replace hb1 := hleF _ _ hb1
    clear hHeld
    have d_hd : (x.cells : Array Value)[17]? = some (.int .u64 (x.hd : Nat)) := rfl
    go_upto_region 8 with (first
      | (with_reducible show wpList _ _ _ ({ dst := _, op := Op.load 3 _, type := _, pos := _, after := _, guard := _ } :: _) _ _; refine wpList_load1_has h rfl 3 _ rfl rfl hb1 d_wh Tryd.underlying3 rfl ?_))
    go_wp2_with (first
      | (with_reducible show wpList _ _ _ ({ dst := _, op := Op.load 22 _, type := _, pos := _, after := _, guard := _ } :: _) _ _; refine wpList_load1_has h rfl 22 _ rfl rfl hb1 d_hd Tryd.underlying22 rfl ?_)
      | (go_at_call 19; refine (N_hd.out M7 _ h).mono ?_; clear h; rintro r w ⟨rfl, h⟩))
    go_ret
    refine ⟨?_, h.le (Mm.le_trans HL.out hleF)⟩
    unfold refLine2 preR
    rw [← E_t.out, ← E_th.out, ← E_hd.out]
    rfl
end Go.Proofs.YtngiabfpfklmjaaDoor

