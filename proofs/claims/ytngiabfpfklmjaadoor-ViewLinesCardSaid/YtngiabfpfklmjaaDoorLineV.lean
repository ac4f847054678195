/- Walk of view.Line: what is seen, told. (Printed by gen_lineview.py.) -/
import Derived.Test.YtngiabfpfklmjaaDoorWriterD
import Derived.Test.YtngiabfpfklmjaaDoorOpWord
import Derived.Test.YtngiabfpfklmjaaDoorCodeName
namespace Go.Proofs.YtngiabfpfklmjaaDoor
open Go.RowKit
set_option linter.unusedVariables false
set_option linter.unusedSimpArgs false
set_option linter.unnecessarySimpa false
/-- What is seen. -/
structure Sn where
  t : Int
  wh : Int
  th : Int
  lv : Int
  op : Int
  cl : Int
  key : Int
  pa : Nat
  pb : Nat
  ch : Nat
  reg : Int
  err : Int
  qa : Nat
  qb : Nat
  ah : Nat
  n : Int
  ak : Int
  hd : Nat
/-- Its numbers are in range. -/
structure Sn.Ok (x : Sn) : Prop where
  t : -9223372036854775808 ≤ x.t ∧ x.t ≤ 9223372036854775807
  wh : -9223372036854775808 ≤ x.wh ∧ x.wh ≤ 9223372036854775807
  th : -9223372036854775808 ≤ x.th ∧ x.th ≤ 9223372036854775807
  lv : -9223372036854775808 ≤ x.lv ∧ x.lv ≤ 9223372036854775807
  op : -9223372036854775808 ≤ x.op ∧ x.op ≤ 9223372036854775807
  cl : -9223372036854775808 ≤ x.cl ∧ x.cl ≤ 9223372036854775807
  key : -9223372036854775808 ≤ x.key ∧ x.key ≤ 9223372036854775807
  pa : x.pa < 18446744073709551616
  pb : x.pb < 18446744073709551616
  ch : x.ch < 18446744073709551616
  reg : -9223372036854775808 ≤ x.reg ∧ x.reg ≤ 9223372036854775807
  err : -9223372036854775808 ≤ x.err ∧ x.err ≤ 9223372036854775807
  qa : x.qa < 18446744073709551616
  qb : x.qb < 18446744073709551616
  ah : x.ah < 18446744073709551616
  n : -9223372036854775808 ≤ x.n ∧ x.n ≤ 9223372036854775807
  ak : -9223372036854775808 ≤ x.ak ∧ x.ak ≤ 9223372036854775807
  hd : x.hd < 18446744073709551616
def Sn.cells (x : Sn) : Array Value := #[.int .i64 x.t, .int .i64 x.wh, .int .i64 x.th, .int .i64 x.lv, .int .i64 x.op, .int .i64 x.cl, .int .i64 x.key, .int .u64 (x.pa : Nat), .int .u64 (x.pb : Nat), .int .u64 (x.ch : Nat), .int .i64 x.reg, .int .i64 x.err, .int .u64 (x.qa : Nat), .int .u64 (x.qb : Nat), .int .u64 (x.ah : Nat), .int .i64 x.n, .int .i64 x.ak, .int .u64 (x.hd : Nat)]
def preL (x : Sn) : ByteArray := addW (addW (addW (⟨#[]⟩) (decI x.t ++ (⟨#[58]⟩ : ByteArray))) ((⟨#[116, 104, 114, 101, 97, 100]⟩ : ByteArray))) (decI x.th)
def implLine (x : Sn) : ByteArray := if x.wh = 0 then addWs (addW (addW (addW (preL x) (wordOf x.op)) (decI x.cl)) (decI x.key)) [x.pa, x.pb, x.ch] else if x.wh = 1 then addWs (addW (addW (addWs (addW (addW (preL x) ((⟨#[98, 97, 99, 107]⟩ : ByteArray))) (codeName x.err)) [x.qa, x.qb]) (decI x.n)) (decI x.ak)) [x.ah] else addWs (addW (preL x) ((⟨#[103, 97, 118, 101]⟩ : ByteArray))) [x.hd]
section
variable {σ w : World} {M : Mm} {b : Nat} {s : ByteArray}
theorem wm_word (h : WM σ M b s w) (hM : ∀ k o, M k = some o → k < b) (t : ByteArray) (hl : s.size + t.size ≤ 10000) : Calls Tryd.prog 10 #[.pointer (some ⟨b, 0, none⟩), .string t] w fun r w' => r = .returned (.tuple #[]) ∧ WM σ M b (addW s t) w' :=
  (word_any h.wr t hl).mono fun r w' ⟨hr, hw, hF⟩ => ⟨hr, h.has.fr hM hF, hw⟩
theorem addW_ge (s t : ByteArray) : s.size ≤ (addW s t).size := by
  unfold addW
  split
  · rw [ByteArray.size_append]; omega
  · rw [ByteArray.size_append, ByteArray.size_append]; omega
theorem addWs_ge (s : ByteArray) (l : List Nat) : s.size ≤ (addWs s l).size := by
  induction l generalizing s with
  | nil => exact Nat.le_refl _
  | cons u l ih => exact Nat.le_trans (addW_ge s (decU u)) (ih _)
theorem Has.fr1 {σ w w' : World} {M : Mm} {b : Nat} (h : Has σ M w) (hM : ∀ k o, M k = some o → k < b) (hF : Below b w w') : Has σ M w' :=
  ⟨hF.os.trans h.os, hF.tape.trans h.tape, hF.output.trans h.output, Nat.le_trans h.size hF.size, fun k o hk => (hF.block k (hM k o hk)).trans (h.at_ k o hk)⟩
theorem wm_itoa (h : WM σ M b s w) (hT : PowT M) (n : Int) (h0 : -9223372036854775808 ≤ n ∧ n ≤ 9223372036854775807) : Calls Tryd.prog 11 #[.int .i64 n] w fun r w' => r = .returned (.string (decI n)) ∧ WM σ M b s w' :=
  (itoa_all (Has.new w) (hT.world h.has) n h0.1 h0.2).mono fun r w' ⟨hr, hw⟩ => ⟨hr, h.has.below hw.bel, h.wr.below hw.bel⟩
theorem wm_op (h : WM σ M b s w) (n : Int) : Calls Tryd.prog 13 #[.int .i64 n] w fun r w' => r = .returned (.string (wordOf n)) ∧ WM σ M b s w' :=
  (callWord_any n w).mono fun r w' ⟨hr, hw⟩ => ⟨hr, h.has.below hw, h.wr.below hw⟩
theorem wm_err (h : WM σ M b s w) (n : Int) : Calls Tryd.prog 15 #[.int .i64 n] w fun r w' => r = .returned (.string (codeName n)) ∧ WM σ M b s w' :=
  (errno_any n w).mono fun r w' ⟨hr, hw⟩ => ⟨hr, h.has.below hw, h.wr.below hw⟩
theorem WM.bel {w' : World} (h : WM σ M b s w) (hb : Below w.heap.size w w') : WM σ M b s w' := ⟨h.has.below hb, h.wr.below hb⟩
end

set_option maxHeartbeats 4000000 in
theorem viewLine_0 {σ w : World} {M : Mm} (h : Has σ M w) (hT : PowT M) (x : Sn) (hx0 : x.Ok) (hw0 : x.wh = 0) :
    Calls Tryd.prog 6 #[.agg x.cells] w fun r w' => r = .returned (.string (implLine x)) ∧ Has σ M w' := by
  have hx := Lib.hid hx0
  have g0 : (x.wh == 0) = true := by rw [hw0]; rfl
  have HW0 := Lib.hid hw0
  clear hw0
  clear hx0
  go_enter Tryd.func6, Tryd.ntmps6
  go_upto_region 1 with (first
    | ((with_reducible show wpList _ _ _ ({ dst := _, op := Op.box 31 _, type := _, pos := _, after := _, guard := _ } :: _) _ _); refine wpList_box_has h rfl 31 _ rfl ?_; clear h; intro b1 w h hn1; try simp only [Act.put, List.setIfInBounds_toArray, List.set_cons_zero, List.set_cons_succ]))
  generalize hM1 : M.upd b1 _ = M1 at h
  have hle : M.le M1 := by rw [← hM1]; exact Mm.le_upd' hn1 _
  have hb1 : M1 b1 = some (.cells x.cells 31) := by rw [← hM1]; exact Mm.upd_same _ _ _
  have HP := Lib.hid (hT.le hle)
  clear hM1 hn1 hT
  have d_t : x.cells[0]? = some (.int .i64 x.t) := rfl
  have d_wh : x.cells[1]? = some (.int .i64 x.wh) := rfl
  have d_th : x.cells[2]? = some (.int .i64 x.th) := rfl
  have d_lv : x.cells[3]? = some (.int .i64 x.lv) := rfl
  have d_op : x.cells[4]? = some (.int .i64 x.op) := rfl
  have d_cl : x.cells[5]? = some (.int .i64 x.cl) := rfl
  have d_key : x.cells[6]? = some (.int .i64 x.key) := rfl
  have d_pa : x.cells[7]? = some (.int .u64 (x.pa : Nat)) := rfl
  have d_pb : x.cells[8]? = some (.int .u64 (x.pb : Nat)) := rfl
  have d_ch : x.cells[9]? = some (.int .u64 (x.ch : Nat)) := rfl
  have d_reg : x.cells[10]? = some (.int .i64 x.reg) := rfl
  have d_err : x.cells[11]? = some (.int .i64 x.err) := rfl
  have d_qa : x.cells[12]? = some (.int .u64 (x.qa : Nat)) := rfl
  have d_qb : x.cells[13]? = some (.int .u64 (x.qb : Nat)) := rfl
  have d_ah : x.cells[14]? = some (.int .u64 (x.ah : Nat)) := rfl
  have d_n : x.cells[15]? = some (.int .i64 x.n) := rfl
  have d_ak : x.cells[16]? = some (.int .i64 x.ak) := rfl
  have d_hd : x.cells[17]? = some (.int .u64 (x.hd : Nat)) := rfl
  go_upto_region 2 with (fail)
  have hW : WM σ M1 w.heap.size ⟨#[]⟩ (w.alloc (.cells #[.pointer none, .slice none 0 0] 44)) := ⟨h.quietAlloc _, Wr.new w⟩
  have HM : Hid (∀ k o, M1 k = some o → k < w.heap.size) := fun k o hk => h.lt hk
  generalize w.heap.size = b at hW HM ⊢
  generalize w.alloc _ = wx at hW ⊢
  clear h
  clear w
  obtain ⟨w, rfl⟩ : ∃ q : World, q = wx := ⟨_, rfl⟩
  have z : (⟨#[]⟩ : ByteArray).size ≤ 0 := Nat.le_refl _
  obtain ⟨s0, E0⟩ : ∃ q : ByteArray, Hid (q = ⟨#[]⟩) := ⟨_, rfl⟩
  rw [← E0.out] at hW z
  have T0 := Lib.hid (fun w (hW : WM σ M1 b s0 w) => wm_itoa hW HP.out x.t hx.out.t)
  have zI := decI_size hx.out.t.1 hx.out.t.2
  have h := hW.has
  have zt : (decI x.t ++ (⟨#[58]⟩ : ByteArray)).size ≤ 22 := by rw [ByteArray.size_append]; exact Nat.add_le_add_right zI 1
  have C := Lib.hid (fun w (hW : WM σ M1 b s0 w) => wm_word hW HM.out (decI x.t ++ (⟨#[58]⟩ : ByteArray)) (Nat.le_trans (Nat.add_le_add z zt) (by decide)))
  go_upto_region 3 with (first
    | (with_reducible show wpList _ _ _ ({ dst := _, op := Op.load 3 _, type := _, pos := _, after := _, guard := _ } :: _) _ _; refine wpList_load1_has h rfl 3 _ rfl rfl hb1 d_t Tryd.underlying3 rfl ?_)
    | (go_at_call 11; refine (T0.out _ hW).mono ?_; clear hW h; rintro r w ⟨rfl, hW⟩; have h := hW.has)
    | (go_at_call 10; refine (C.out _ hW).mono ?_; clear hW h; rintro r w ⟨rfl, hW⟩))
  clear C
  have z : (addW s0 (decI x.t ++ (⟨#[58]⟩ : ByteArray))).size ≤ 23 := Nat.le_trans (Nat.le_trans (addW_size _ _) (Nat.add_le_add_right (Nat.add_le_add z zt) 1)) (by omega)
  obtain ⟨s1, E1⟩ : ∃ q, Hid (q = addW s0 (decI x.t ++ (⟨#[58]⟩ : ByteArray))) := ⟨_, rfl⟩
  have p1 : 1 ≤ (addW s0 (decI x.t ++ (⟨#[58]⟩ : ByteArray))).size := addW_pos _ _ (by rw [ByteArray.size_append]; exact Nat.le_add_left 1 _)
  rw [← E1.out] at hW z p1
  -- addW s0 (decI x.t ++ (⟨#[58]⟩ : ByteArray)) = s1 at hW z E1
  clear T0 zI
  have h := hW.has
  have zt : ((⟨#[116, 104, 114, 101, 97, 100]⟩ : ByteArray)).size ≤ 6 := by decide
  have C := Lib.hid (fun w (hW : WM σ M1 b s1 w) => wm_word hW HM.out ((⟨#[116, 104, 114, 101, 97, 100]⟩ : ByteArray)) (Nat.le_trans (Nat.add_le_add z zt) (by decide)))
  go_upto_region 4 with (first
    | (go_at_call 10; refine (C.out _ hW).mono ?_; clear hW h; rintro r w ⟨rfl, hW⟩))
  clear C
  have z : (addW s1 ((⟨#[116, 104, 114, 101, 97, 100]⟩ : ByteArray))).size ≤ 30 := Nat.le_trans (Nat.le_trans (addW_size _ _) (Nat.add_le_add_right (Nat.add_le_add z zt) 1)) (by omega)
  obtain ⟨s2, E2⟩ : ∃ q, Hid (q = addW s1 ((⟨#[116, 104, 114, 101, 97, 100]⟩ : ByteArray))) := ⟨_, rfl⟩
  have p1 : 1 ≤ (addW s1 ((⟨#[116, 104, 114, 101, 97, 100]⟩ : ByteArray))).size := Nat.le_trans p1 (addW_ge _ _)
  rw [← E2.out] at hW z p1
  -- addW s1 ((⟨#[116, 104, 114, 101, 97, 100]⟩ : ByteArray)) = s2 at hW z E2
  have h := hW.has
  have C := Lib.hid (fun w (hW : WM σ M1 b s2 w) => number_any hW HM.out HP.out x.th hx.out.th.1 hx.out.th.2 (Nat.le_trans z (by decide)))
  go_upto_region 5 with (first
    | (with_reducible show wpList _ _ _ ({ dst := _, op := Op.load 3 _, type := _, pos := _, after := _, guard := _ } :: _) _ _; refine wpList_load1_has h rfl 3 _ rfl rfl hb1 d_th Tryd.underlying3 rfl ?_)
    | (go_at_call 12; refine (C.out _ hW).mono ?_; clear hW h; rintro r w ⟨rfl, hW⟩))
  clear C
  have z : (addW s2 (decI x.th)).size ≤ 52 := Nat.le_trans (Nat.le_trans (addW_size _ _) (Nat.add_le_add_right (Nat.add_le_add z (decI_size hx.out.th.1 hx.out.th.2)) 1)) (by omega)
  obtain ⟨s3, E3⟩ : ∃ q, Hid (q = addW s2 (decI x.th)) := ⟨_, rfl⟩
  have p1 : 1 ≤ (addW s2 (decI x.th)).size := Nat.le_trans p1 (addW_ge _ _)
  rw [← E3.out] at hW z p1
  -- addW s2 (decI x.th) = s3 at hW z E3
  have h := hW.has
  go_upto_region 9 with (first
    | (with_reducible show wpList _ _ _ ({ dst := _, op := Op.load 3 _, type := _, pos := _, after := _, guard := _ } :: _) _ _; refine wpList_load1_has h rfl 3 _ rfl rfl hb1 d_wh Tryd.underlying3 rfl ?_))
  have T1 := Lib.hid (fun w (hW : WM σ M1 b s3 w) => wm_op hW x.op)
  have h := hW.has
  have zt : (wordOf x.op).size ≤ 5 := wordOf_size _
  have C := Lib.hid (fun w (hW : WM σ M1 b s3 w) => wm_word hW HM.out (wordOf x.op) (Nat.le_trans (Nat.add_le_add z zt) (by decide)))
  go_upto_region 10 with (first
    | (with_reducible show wpList _ _ _ ({ dst := _, op := Op.load 3 _, type := _, pos := _, after := _, guard := _ } :: _) _ _; refine wpList_load1_has h rfl 3 _ rfl rfl hb1 d_op Tryd.underlying3 rfl ?_)
    | (go_at_call 13; refine (T1.out _ hW).mono ?_; clear hW h; rintro r w ⟨rfl, hW⟩; have h := hW.has)
    | (go_at_call 10; refine (C.out _ hW).mono ?_; clear hW h; rintro r w ⟨rfl, hW⟩))
  clear C
  have z : (addW s3 (wordOf x.op)).size ≤ 58 := Nat.le_trans (Nat.le_trans (addW_size _ _) (Nat.add_le_add_right (Nat.add_le_add z zt) 1)) (by omega)
  obtain ⟨s4, E4⟩ : ∃ q, Hid (q = addW s3 (wordOf x.op)) := ⟨_, rfl⟩
  have p1 : 1 ≤ (addW s3 (wordOf x.op)).size := Nat.le_trans p1 (addW_ge _ _)
  rw [← E4.out] at hW z p1
  -- addW s3 (wordOf x.op) = s4 at hW z E4
  have h := hW.has
  have C := Lib.hid (fun w (hW : WM σ M1 b s4 w) => number_any hW HM.out HP.out x.cl hx.out.cl.1 hx.out.cl.2 (Nat.le_trans z (by decide)))
  go_upto_region 11 with (first
    | (with_reducible show wpList _ _ _ ({ dst := _, op := Op.load 3 _, type := _, pos := _, after := _, guard := _ } :: _) _ _; refine wpList_load1_has h rfl 3 _ rfl rfl hb1 d_cl Tryd.underlying3 rfl ?_)
    | (go_at_call 12; refine (C.out _ hW).mono ?_; clear hW h; rintro r w ⟨rfl, hW⟩))
  clear C
  have z : (addW s4 (decI x.cl)).size ≤ 80 := Nat.le_trans (Nat.le_trans (addW_size _ _) (Nat.add_le_add_right (Nat.add_le_add z (decI_size hx.out.cl.1 hx.out.cl.2)) 1)) (by omega)
  obtain ⟨s5, E5⟩ : ∃ q, Hid (q = addW s4 (decI x.cl)) := ⟨_, rfl⟩
  have p1 : 1 ≤ (addW s4 (decI x.cl)).size := Nat.le_trans p1 (addW_ge _ _)
  rw [← E5.out] at hW z p1
  -- addW s4 (decI x.cl) = s5 at hW z E5
  have h := hW.has
  have C := Lib.hid (fun w (hW : WM σ M1 b s5 w) => number_any hW HM.out HP.out x.key hx.out.key.1 hx.out.key.2 (Nat.le_trans z (by decide)))
  go_upto_region 12 with (first
    | (with_reducible show wpList _ _ _ ({ dst := _, op := Op.load 2 _, type := _, pos := _, after := _, guard := _ } :: _) _ _; refine wpList_load1_has h rfl 2 _ rfl rfl hb1 d_key Tryd.underlying2 rfl ?_)
    | (go_at_call 12; refine (C.out _ hW).mono ?_; clear hW h; rintro r w ⟨rfl, hW⟩))
  clear C
  have z : (addW s5 (decI x.key)).size ≤ 102 := Nat.le_trans (Nat.le_trans (addW_size _ _) (Nat.add_le_add_right (Nat.add_le_add z (decI_size hx.out.key.1 hx.out.key.2)) 1)) (by omega)
  obtain ⟨s6, E6⟩ : ∃ q, Hid (q = addW s5 (decI x.key)) := ⟨_, rfl⟩
  have p1 : 1 ≤ (addW s5 (decI x.key)).size := Nat.le_trans p1 (addW_ge _ _)
  rw [← E6.out] at hW z p1
  -- addW s5 (decI x.key) = s6 at hW z E6
  have h := hW.has
  have hu : ∀ u ∈ [x.pa, x.pb, x.ch], u < 18446744073709551616 := by intro u hu; simp only [List.mem_cons, List.not_mem_nil, or_false] at hu; rcases hu with rfl | rfl | rfl <;> first  | exact hx.out.pa | exact hx.out.pb | exact hx.out.ch
  have zb : (addWs s6 [x.pa, x.pb, x.ch]).size ≤ s6.size + 63 := addWs_size s6 [x.pa, x.pb, x.ch] hu
  have C := Lib.hid (fun w (hW : WM σ M1 b s6 w) => bits_any (hW.bel ((Below.refl _ _).alloc (Nat.le_refl _) (.cells (u64c [x.pa, x.pb, x.ch]) 22))) HM.out HP.out [x.pa, x.pb, x.ch] hu (by simp) (Nat.le_trans z (by decide)) w.heap.size (heap_alloc_new w _) (Nat.ne_of_gt hW.wr.lt))
  unfold u64c at C
  simp only [List.map_cons, List.map_nil, List.length_cons, List.length_nil] at C
  go_upto_region 20 with (first
    | (with_reducible show wpList _ _ _ ({ dst := _, op := Op.load 22 _, type := _, pos := _, after := _, guard := _ } :: _) _ _; refine wpList_load1_has h rfl 22 _ rfl rfl hb1 d_pa Tryd.underlying22 rfl ?_)
    | (with_reducible show wpList _ _ _ ({ dst := _, op := Op.load 22 _, type := _, pos := _, after := _, guard := _ } :: _) _ _; refine wpList_load1_has h rfl 22 _ rfl rfl hb1 d_pb Tryd.underlying22 rfl ?_)
    | (with_reducible show wpList _ _ _ ({ dst := _, op := Op.load 22 _, type := _, pos := _, after := _, guard := _ } :: _) _ _; refine wpList_load1_has h rfl 22 _ rfl rfl hb1 d_ch Tryd.underlying22 rfl ?_)
    | (go_at_call 14; refine (C.out _ hW).mono ?_; clear hW h; rintro r w ⟨rfl, hW⟩))
  clear C hu
  have z : (addWs s6 [x.pa, x.pb, x.ch]).size ≤ 165 := Nat.le_trans (Nat.le_trans zb (Nat.add_le_add_right z _)) (by omega)
  obtain ⟨s7, E7⟩ : ∃ q, Hid (q = addWs s6 [x.pa, x.pb, x.ch]) := ⟨_, rfl⟩
  have p1 : 1 ≤ (addWs s6 [x.pa, x.pb, x.ch]).size := Nat.le_trans p1 (addWs_ge _ _)
  rw [← E7.out] at hW z p1
  -- addWs s6 [x.pa, x.pb, x.ch] = s7 at hW z E7
  have h := hW.has
  have C := Lib.hid (string_any hW.wr p1)
  have HH := Lib.hid h
  clear hW
  go_wp2_with (first
    | (go_at_call 16; refine C.out.mono ?_; rintro r w ⟨rfl, hb⟩))
  go_ret
  refine ⟨?_, (HH.out.fr1 HM.out hb).le hle⟩
  rw [E7.out, E6.out, E5.out, E4.out, E3.out, E2.out, E1.out, E0.out]
  unfold implLine preL
  rw [if_pos HW0.out]
  rfl

set_option maxHeartbeats 4000000 in
theorem viewLine_1 {σ w : World} {M : Mm} (h : Has σ M w) (hT : PowT M) (x : Sn) (hx0 : x.Ok) (hw0 : x.wh = 1) :
    Calls Tryd.prog 6 #[.agg x.cells] w fun r w' => r = .returned (.string (implLine x)) ∧ Has σ M w' := by
  have hx := Lib.hid hx0
  have g0 : (x.wh == 0) = false := by rw [hw0]; rfl
  have g1 : (x.wh == 1) = true := by rw [hw0]; rfl
  have HW0 : Hid (¬ x.wh = 0) := by show ¬ _; omega
  have HW1 := Lib.hid hw0
  clear hw0
  clear hx0
  go_enter Tryd.func6, Tryd.ntmps6
  go_upto_region 1 with (first
    | ((with_reducible show wpList _ _ _ ({ dst := _, op := Op.box 31 _, type := _, pos := _, after := _, guard := _ } :: _) _ _); refine wpList_box_has h rfl 31 _ rfl ?_; clear h; intro b1 w h hn1; try simp only [Act.put, List.setIfInBounds_toArray, List.set_cons_zero, List.set_cons_succ]))
  generalize hM1 : M.upd b1 _ = M1 at h
  have hle : M.le M1 := by rw [← hM1]; exact Mm.le_upd' hn1 _
  have hb1 : M1 b1 = some (.cells x.cells 31) := by rw [← hM1]; exact Mm.upd_same _ _ _
  have HP := Lib.hid (hT.le hle)
  clear hM1 hn1 hT
  have d_t : x.cells[0]? = some (.int .i64 x.t) := rfl
  have d_wh : x.cells[1]? = some (.int .i64 x.wh) := rfl
  have d_th : x.cells[2]? = some (.int .i64 x.th) := rfl
  have d_lv : x.cells[3]? = some (.int .i64 x.lv) := rfl
  have d_op : x.cells[4]? = some (.int .i64 x.op) := rfl
  have d_cl : x.cells[5]? = some (.int .i64 x.cl) := rfl
  have d_key : x.cells[6]? = some (.int .i64 x.key) := rfl
  have d_pa : x.cells[7]? = some (.int .u64 (x.pa : Nat)) := rfl
  have d_pb : x.cells[8]? = some (.int .u64 (x.pb : Nat)) := rfl
  have d_ch : x.cells[9]? = some (.int .u64 (x.ch : Nat)) := rfl
  have d_reg : x.cells[10]? = some (.int .i64 x.reg) := rfl
  have d_err : x.cells[11]? = some (.int .i64 x.err) := rfl
  have d_qa : x.cells[12]? = some (.int .u64 (x.qa : Nat)) := rfl
  have d_qb : x.cells[13]? = some (.int .u64 (x.qb : Nat)) := rfl
  have d_ah : x.cells[14]? = some (.int .u64 (x.ah : Nat)) := rfl
  have d_n : x.cells[15]? = some (.int .i64 x.n) := rfl
  have d_ak : x.cells[16]? = some (.int .i64 x.ak) := rfl
  have d_hd : x.cells[17]? = some (.int .u64 (x.hd : Nat)) := rfl
  go_upto_region 2 with (fail)
  have hW : WM σ M1 w.heap.size ⟨#[]⟩ (w.alloc (.cells #[.pointer none, .slice none 0 0] 44)) := ⟨h.quietAlloc _, Wr.new w⟩
  have HM : Hid (∀ k o, M1 k = some o → k < w.heap.size) := fun k o hk => h.lt hk
  generalize w.heap.size = b at hW HM ⊢
  generalize w.alloc _ = wx at hW ⊢
  clear h
  clear w
  obtain ⟨w, rfl⟩ : ∃ q : World, q = wx := ⟨_, rfl⟩
  have z : (⟨#[]⟩ : ByteArray).size ≤ 0 := Nat.le_refl _
  obtain ⟨s0, E0⟩ : ∃ q : ByteArray, Hid (q = ⟨#[]⟩) := ⟨_, rfl⟩
  rw [← E0.out] at hW z
  have T0 := Lib.hid (fun w (hW : WM σ M1 b s0 w) => wm_itoa hW HP.out x.t hx.out.t)
  have zI := decI_size hx.out.t.1 hx.out.t.2
  have h := hW.has
  have zt : (decI x.t ++ (⟨#[58]⟩ : ByteArray)).size ≤ 22 := by rw [ByteArray.size_append]; exact Nat.add_le_add_right zI 1
  have C := Lib.hid (fun w (hW : WM σ M1 b s0 w) => wm_word hW HM.out (decI x.t ++ (⟨#[58]⟩ : ByteArray)) (Nat.le_trans (Nat.add_le_add z zt) (by decide)))
  go_upto_region 3 with (first
    | (with_reducible show wpList _ _ _ ({ dst := _, op := Op.load 3 _, type := _, pos := _, after := _, guard := _ } :: _) _ _; refine wpList_load1_has h rfl 3 _ rfl rfl hb1 d_t Tryd.underlying3 rfl ?_)
    | (go_at_call 11; refine (T0.out _ hW).mono ?_; clear hW h; rintro r w ⟨rfl, hW⟩; have h := hW.has)
    | (go_at_call 10; refine (C.out _ hW).mono ?_; clear hW h; rintro r w ⟨rfl, hW⟩))
  clear C
  have z : (addW s0 (decI x.t ++ (⟨#[58]⟩ : ByteArray))).size ≤ 23 := Nat.le_trans (Nat.le_trans (addW_size _ _) (Nat.add_le_add_right (Nat.add_le_add z zt) 1)) (by omega)
  obtain ⟨s1, E1⟩ : ∃ q, Hid (q = addW s0 (decI x.t ++ (⟨#[58]⟩ : ByteArray))) := ⟨_, rfl⟩
  have p1 : 1 ≤ (addW s0 (decI x.t ++ (⟨#[58]⟩ : ByteArray))).size := addW_pos _ _ (by rw [ByteArray.size_append]; exact Nat.le_add_left 1 _)
  rw [← E1.out] at hW z p1
  -- addW s0 (decI x.t ++ (⟨#[58]⟩ : ByteArray)) = s1 at hW z E1
  clear T0 zI
  have h := hW.has
  have zt : ((⟨#[116, 104, 114, 101, 97, 100]⟩ : ByteArray)).size ≤ 6 := by decide
  have C := Lib.hid (fun w (hW : WM σ M1 b s1 w) => wm_word hW HM.out ((⟨#[116, 104, 114, 101, 97, 100]⟩ : ByteArray)) (Nat.le_trans (Nat.add_le_add z zt) (by decide)))
  go_upto_region 4 with (first
    | (go_at_call 10; refine (C.out _ hW).mono ?_; clear hW h; rintro r w ⟨rfl, hW⟩))
  clear C
  have z : (addW s1 ((⟨#[116, 104, 114, 101, 97, 100]⟩ : ByteArray))).size ≤ 30 := Nat.le_trans (Nat.le_trans (addW_size _ _) (Nat.add_le_add_right (Nat.add_le_add z zt) 1)) (by omega)
  obtain ⟨s2, E2⟩ : ∃ q, Hid (q = addW s1 ((⟨#[116, 104, 114, 101, 97, 100]⟩ : ByteArray))) := ⟨_, rfl⟩
  have p1 : 1 ≤ (addW s1 ((⟨#[116, 104, 114, 101, 97, 100]⟩ : ByteArray))).size := Nat.le_trans p1 (addW_ge _ _)
  rw [← E2.out] at hW z p1
  -- addW s1 ((⟨#[116, 104, 114, 101, 97, 100]⟩ : ByteArray)) = s2 at hW z E2
  have h := hW.has
  have C := Lib.hid (fun w (hW : WM σ M1 b s2 w) => number_any hW HM.out HP.out x.th hx.out.th.1 hx.out.th.2 (Nat.le_trans z (by decide)))
  go_upto_region 5 with (first
    | (with_reducible show wpList _ _ _ ({ dst := _, op := Op.load 3 _, type := _, pos := _, after := _, guard := _ } :: _) _ _; refine wpList_load1_has h rfl 3 _ rfl rfl hb1 d_th Tryd.underlying3 rfl ?_)
    | (go_at_call 12; refine (C.out _ hW).mono ?_; clear hW h; rintro r w ⟨rfl, hW⟩))
  clear C
  have z : (addW s2 (decI x.th)).size ≤ 52 := Nat.le_trans (Nat.le_trans (addW_size _ _) (Nat.add_le_add_right (Nat.add_le_add z (decI_size hx.out.th.1 hx.out.th.2)) 1)) (by omega)
  obtain ⟨s3, E3⟩ : ∃ q, Hid (q = addW s2 (decI x.th)) := ⟨_, rfl⟩
  have p1 : 1 ≤ (addW s2 (decI x.th)).size := Nat.le_trans p1 (addW_ge _ _)
  rw [← E3.out] at hW z p1
  -- addW s2 (decI x.th) = s3 at hW z E3
  have h := hW.has
  go_upto_region 14 with (first
    | (with_reducible show wpList _ _ _ ({ dst := _, op := Op.load 3 _, type := _, pos := _, after := _, guard := _ } :: _) _ _; refine wpList_load1_has h rfl 3 _ rfl rfl hb1 d_wh Tryd.underlying3 rfl ?_))
  have h := hW.has
  have h := hW.has
  have zt : ((⟨#[98, 97, 99, 107]⟩ : ByteArray)).size ≤ 4 := by decide
  have C := Lib.hid (fun w (hW : WM σ M1 b s3 w) => wm_word hW HM.out ((⟨#[98, 97, 99, 107]⟩ : ByteArray)) (Nat.le_trans (Nat.add_le_add z zt) (by decide)))
  go_upto_region 15 with (first
    | (go_at_call 10; refine (C.out _ hW).mono ?_; clear hW h; rintro r w ⟨rfl, hW⟩))
  clear C
  have z : (addW s3 ((⟨#[98, 97, 99, 107]⟩ : ByteArray))).size ≤ 57 := Nat.le_trans (Nat.le_trans (addW_size _ _) (Nat.add_le_add_right (Nat.add_le_add z zt) 1)) (by omega)
  obtain ⟨s4, E4⟩ : ∃ q, Hid (q = addW s3 ((⟨#[98, 97, 99, 107]⟩ : ByteArray))) := ⟨_, rfl⟩
  have p1 : 1 ≤ (addW s3 ((⟨#[98, 97, 99, 107]⟩ : ByteArray))).size := Nat.le_trans p1 (addW_ge _ _)
  rw [← E4.out] at hW z p1
  -- addW s3 ((⟨#[98, 97, 99, 107]⟩ : ByteArray)) = s4 at hW z E4
  have T1 := Lib.hid (fun w (hW : WM σ M1 b s4 w) => wm_err hW x.err)
  have h := hW.has
  have zt : (codeName x.err).size ≤ 7 := codeName_size _
  have C := Lib.hid (fun w (hW : WM σ M1 b s4 w) => wm_word hW HM.out (codeName x.err) (Nat.le_trans (Nat.add_le_add z zt) (by decide)))
  go_upto_region 16 with (first
    | (with_reducible show wpList _ _ _ ({ dst := _, op := Op.load 27 _, type := _, pos := _, after := _, guard := _ } :: _) _ _; refine wpList_load1_has h rfl 27 _ rfl rfl hb1 d_err Tryd.underlying27 rfl ?_)
    | (go_at_call 15; refine (T1.out _ hW).mono ?_; clear hW h; rintro r w ⟨rfl, hW⟩; have h := hW.has)
    | (go_at_call 10; refine (C.out _ hW).mono ?_; clear hW h; rintro r w ⟨rfl, hW⟩))
  clear C
  have z : (addW s4 (codeName x.err)).size ≤ 65 := Nat.le_trans (Nat.le_trans (addW_size _ _) (Nat.add_le_add_right (Nat.add_le_add z zt) 1)) (by omega)
  obtain ⟨s5, E5⟩ : ∃ q, Hid (q = addW s4 (codeName x.err)) := ⟨_, rfl⟩
  have p1 : 1 ≤ (addW s4 (codeName x.err)).size := Nat.le_trans p1 (addW_ge _ _)
  rw [← E5.out] at hW z p1
  -- addW s4 (codeName x.err) = s5 at hW z E5
  have h := hW.has
  have hu : ∀ u ∈ [x.qa, x.qb], u < 18446744073709551616 := by intro u hu; simp only [List.mem_cons, List.not_mem_nil, or_false] at hu; rcases hu with rfl | rfl <;> first  | exact hx.out.qa | exact hx.out.qb
  have zb : (addWs s5 [x.qa, x.qb]).size ≤ s5.size + 42 := addWs_size s5 [x.qa, x.qb] hu
  have C := Lib.hid (fun w (hW : WM σ M1 b s5 w) => bits_any (hW.bel ((Below.refl _ _).alloc (Nat.le_refl _) (.cells (u64c [x.qa, x.qb]) 22))) HM.out HP.out [x.qa, x.qb] hu (by simp) (Nat.le_trans z (by decide)) w.heap.size (heap_alloc_new w _) (Nat.ne_of_gt hW.wr.lt))
  unfold u64c at C
  simp only [List.map_cons, List.map_nil, List.length_cons, List.length_nil] at C
  go_upto_region 17 with (first
    | (with_reducible show wpList _ _ _ ({ dst := _, op := Op.load 22 _, type := _, pos := _, after := _, guard := _ } :: _) _ _; refine wpList_load1_has h rfl 22 _ rfl rfl hb1 d_qa Tryd.underlying22 rfl ?_)
    | (with_reducible show wpList _ _ _ ({ dst := _, op := Op.load 22 _, type := _, pos := _, after := _, guard := _ } :: _) _ _; refine wpList_load1_has h rfl 22 _ rfl rfl hb1 d_qb Tryd.underlying22 rfl ?_)
    | (go_at_call 14; refine (C.out _ hW).mono ?_; clear hW h; rintro r w ⟨rfl, hW⟩))
  clear C hu
  have z : (addWs s5 [x.qa, x.qb]).size ≤ 107 := Nat.le_trans (Nat.le_trans zb (Nat.add_le_add_right z _)) (by omega)
  obtain ⟨s6, E6⟩ : ∃ q, Hid (q = addWs s5 [x.qa, x.qb]) := ⟨_, rfl⟩
  have p1 : 1 ≤ (addWs s5 [x.qa, x.qb]).size := Nat.le_trans p1 (addWs_ge _ _)
  rw [← E6.out] at hW z p1
  -- addWs s5 [x.qa, x.qb] = s6 at hW z E6
  have h := hW.has
  have C := Lib.hid (fun w (hW : WM σ M1 b s6 w) => number_any hW HM.out HP.out x.n hx.out.n.1 hx.out.n.2 (Nat.le_trans z (by decide)))
  go_upto_region 18 with (first
    | (with_reducible show wpList _ _ _ ({ dst := _, op := Op.load 3 _, type := _, pos := _, after := _, guard := _ } :: _) _ _; refine wpList_load1_has h rfl 3 _ rfl rfl hb1 d_n Tryd.underlying3 rfl ?_)
    | (go_at_call 12; refine (C.out _ hW).mono ?_; clear hW h; rintro r w ⟨rfl, hW⟩))
  clear C
  have z : (addW s6 (decI x.n)).size ≤ 129 := Nat.le_trans (Nat.le_trans (addW_size _ _) (Nat.add_le_add_right (Nat.add_le_add z (decI_size hx.out.n.1 hx.out.n.2)) 1)) (by omega)
  obtain ⟨s7, E7⟩ : ∃ q, Hid (q = addW s6 (decI x.n)) := ⟨_, rfl⟩
  have p1 : 1 ≤ (addW s6 (decI x.n)).size := Nat.le_trans p1 (addW_ge _ _)
  rw [← E7.out] at hW z p1
  -- addW s6 (decI x.n) = s7 at hW z E7
  have h := hW.has
  have C := Lib.hid (fun w (hW : WM σ M1 b s7 w) => number_any hW HM.out HP.out x.ak hx.out.ak.1 hx.out.ak.2 (Nat.le_trans z (by decide)))
  go_upto_region 19 with (first
    | (with_reducible show wpList _ _ _ ({ dst := _, op := Op.load 2 _, type := _, pos := _, after := _, guard := _ } :: _) _ _; refine wpList_load1_has h rfl 2 _ rfl rfl hb1 d_ak Tryd.underlying2 rfl ?_)
    | (go_at_call 12; refine (C.out _ hW).mono ?_; clear hW h; rintro r w ⟨rfl, hW⟩))
  clear C
  have z : (addW s7 (decI x.ak)).size ≤ 151 := Nat.le_trans (Nat.le_trans (addW_size _ _) (Nat.add_le_add_right (Nat.add_le_add z (decI_size hx.out.ak.1 hx.out.ak.2)) 1)) (by omega)
  obtain ⟨s8, E8⟩ : ∃ q, Hid (q = addW s7 (decI x.ak)) := ⟨_, rfl⟩
  have p1 : 1 ≤ (addW s7 (decI x.ak)).size := Nat.le_trans p1 (addW_ge _ _)
  rw [← E8.out] at hW z p1
  -- addW s7 (decI x.ak) = s8 at hW z E8
  have h := hW.has
  have hu : ∀ u ∈ [x.ah], u < 18446744073709551616 := by intro u hu; simp only [List.mem_cons, List.not_mem_nil, or_false] at hu; rcases hu with rfl <;> first  | exact hx.out.ah
  have zb : (addWs s8 [x.ah]).size ≤ s8.size + 21 := addWs_size s8 [x.ah] hu
  have C := Lib.hid (fun w (hW : WM σ M1 b s8 w) => bits_any (hW.bel ((Below.refl _ _).alloc (Nat.le_refl _) (.cells (u64c [x.ah]) 22))) HM.out HP.out [x.ah] hu (by simp) (Nat.le_trans z (by decide)) w.heap.size (heap_alloc_new w _) (Nat.ne_of_gt hW.wr.lt))
  unfold u64c at C
  simp only [List.map_cons, List.map_nil, List.length_cons, List.length_nil] at C
  go_upto_region 20 with (first
    | (with_reducible show wpList _ _ _ ({ dst := _, op := Op.load 22 _, type := _, pos := _, after := _, guard := _ } :: _) _ _; refine wpList_load1_has h rfl 22 _ rfl rfl hb1 d_ah Tryd.underlying22 rfl ?_)
    | (go_at_call 14; refine (C.out _ hW).mono ?_; clear hW h; rintro r w ⟨rfl, hW⟩))
  clear C hu
  have z : (addWs s8 [x.ah]).size ≤ 172 := Nat.le_trans (Nat.le_trans zb (Nat.add_le_add_right z _)) (by omega)
  obtain ⟨s9, E9⟩ : ∃ q, Hid (q = addWs s8 [x.ah]) := ⟨_, rfl⟩
  have p1 : 1 ≤ (addWs s8 [x.ah]).size := Nat.le_trans p1 (addWs_ge _ _)
  rw [← E9.out] at hW z p1
  -- addWs s8 [x.ah] = s9 at hW z E9
  have h := hW.has
  have C := Lib.hid (string_any hW.wr p1)
  have HH := Lib.hid h
  clear hW
  go_wp2_with (first
    | (go_at_call 16; refine C.out.mono ?_; rintro r w ⟨rfl, hb⟩))
  go_ret
  refine ⟨?_, (HH.out.fr1 HM.out hb).le hle⟩
  rw [E9.out, E8.out, E7.out, E6.out, E5.out, E4.out, E3.out, E2.out, E1.out, E0.out]
  unfold implLine preL
  rw [if_neg HW0.out, if_pos HW1.out]
  rfl

set_option maxHeartbeats 4000000 in
theorem viewLine_2 {σ w : World} {M : Mm} (h : Has σ M w) (hT : PowT M) (x : Sn) (hx0 : x.Ok) (hw0 : ¬ x.wh = 0) (hw1 : ¬ x.wh = 1) :
    Calls Tryd.prog 6 #[.agg x.cells] w fun r w' => r = .returned (.string (implLine x)) ∧ Has σ M w' := by
  have hx := Lib.hid hx0
  have g0 : (x.wh == 0) = false := beq_eq_false_iff_ne.2 hw0
  have g1 : (x.wh == 1) = false := beq_eq_false_iff_ne.2 hw1
  have HW0 := Lib.hid hw0
  have HW1 := Lib.hid hw1
  clear hw0 hw1
  clear hx0
  go_enter Tryd.func6, Tryd.ntmps6
  go_upto_region 1 with (first
    | ((with_reducible show wpList _ _ _ ({ dst := _, op := Op.box 31 _, type := _, pos := _, after := _, guard := _ } :: _) _ _); refine wpList_box_has h rfl 31 _ rfl ?_; clear h; intro b1 w h hn1; try simp only [Act.put, List.setIfInBounds_toArray, List.set_cons_zero, List.set_cons_succ]))
  generalize hM1 : M.upd b1 _ = M1 at h
  have hle : M.le M1 := by rw [← hM1]; exact Mm.le_upd' hn1 _
  have hb1 : M1 b1 = some (.cells x.cells 31) := by rw [← hM1]; exact Mm.upd_same _ _ _
  have HP := Lib.hid (hT.le hle)
  clear hM1 hn1 hT
  have d_t : x.cells[0]? = some (.int .i64 x.t) := rfl
  have d_wh : x.cells[1]? = some (.int .i64 x.wh) := rfl
  have d_th : x.cells[2]? = some (.int .i64 x.th) := rfl
  have d_lv : x.cells[3]? = some (.int .i64 x.lv) := rfl
  have d_op : x.cells[4]? = some (.int .i64 x.op) := rfl
  have d_cl : x.cells[5]? = some (.int .i64 x.cl) := rfl
  have d_key : x.cells[6]? = some (.int .i64 x.key) := rfl
  have d_pa : x.cells[7]? = some (.int .u64 (x.pa : Nat)) := rfl
  have d_pb : x.cells[8]? = some (.int .u64 (x.pb : Nat)) := rfl
  have d_ch : x.cells[9]? = some (.int .u64 (x.ch : Nat)) := rfl
  have d_reg : x.cells[10]? = some (.int .i64 x.reg) := rfl
  have d_err : x.cells[11]? = some (.int .i64 x.err) := rfl
  have d_qa : x.cells[12]? = some (.int .u64 (x.qa : Nat)) := rfl
  have d_qb : x.cells[13]? = some (.int .u64 (x.qb : Nat)) := rfl
  have d_ah : x.cells[14]? = some (.int .u64 (x.ah : Nat)) := rfl
  have d_n : x.cells[15]? = some (.int .i64 x.n) := rfl
  have d_ak : x.cells[16]? = some (.int .i64 x.ak) := rfl
  have d_hd : x.cells[17]? = some (.int .u64 (x.hd : Nat)) := rfl
  go_upto_region 2 with (fail)
  have hW : WM σ M1 w.heap.size ⟨#[]⟩ (w.alloc (.cells #[.pointer none, .slice none 0 0] 44)) := ⟨h.quietAlloc _, Wr.new w⟩
  have HM : Hid (∀ k o, M1 k = some o → k < w.heap.size) := fun k o hk => h.lt hk
  generalize w.heap.size = b at hW HM ⊢
  generalize w.alloc _ = wx at hW ⊢
  clear h
  clear w
  obtain ⟨w, rfl⟩ : ∃ q : World, q = wx := ⟨_, rfl⟩
  have z : (⟨#[]⟩ : ByteArray).size ≤ 0 := Nat.le_refl _
  obtain ⟨s0, E0⟩ : ∃ q : ByteArray, Hid (q = ⟨#[]⟩) := ⟨_, rfl⟩
  rw [← E0.out] at hW z
  have T0 := Lib.hid (fun w (hW : WM σ M1 b s0 w) => wm_itoa hW HP.out x.t hx.out.t)
  have zI := decI_size hx.out.t.1 hx.out.t.2
  have h := hW.has
  have zt : (decI x.t ++ (⟨#[58]⟩ : ByteArray)).size ≤ 22 := by rw [ByteArray.size_append]; exact Nat.add_le_add_right zI 1
  have C := Lib.hid (fun w (hW : WM σ M1 b s0 w) => wm_word hW HM.out (decI x.t ++ (⟨#[58]⟩ : ByteArray)) (Nat.le_trans (Nat.add_le_add z zt) (by decide)))
  go_upto_region 3 with (first
    | (with_reducible show wpList _ _ _ ({ dst := _, op := Op.load 3 _, type := _, pos := _, after := _, guard := _ } :: _) _ _; refine wpList_load1_has h rfl 3 _ rfl rfl hb1 d_t Tryd.underlying3 rfl ?_)
    | (go_at_call 11; refine (T0.out _ hW).mono ?_; clear hW h; rintro r w ⟨rfl, hW⟩; have h := hW.has)
    | (go_at_call 10; refine (C.out _ hW).mono ?_; clear hW h; rintro r w ⟨rfl, hW⟩))
  clear C
  have z : (addW s0 (decI x.t ++ (⟨#[58]⟩ : ByteArray))).size ≤ 23 := Nat.le_trans (Nat.le_trans (addW_size _ _) (Nat.add_le_add_right (Nat.add_le_add z zt) 1)) (by omega)
  obtain ⟨s1, E1⟩ : ∃ q, Hid (q = addW s0 (decI x.t ++ (⟨#[58]⟩ : ByteArray))) := ⟨_, rfl⟩
  have p1 : 1 ≤ (addW s0 (decI x.t ++ (⟨#[58]⟩ : ByteArray))).size := addW_pos _ _ (by rw [ByteArray.size_append]; exact Nat.le_add_left 1 _)
  rw [← E1.out] at hW z p1
  -- addW s0 (decI x.t ++ (⟨#[58]⟩ : ByteArray)) = s1 at hW z E1
  clear T0 zI
  have h := hW.has
  have zt : ((⟨#[116, 104, 114, 101, 97, 100]⟩ : ByteArray)).size ≤ 6 := by decide
  have C := Lib.hid (fun w (hW : WM σ M1 b s1 w) => wm_word hW HM.out ((⟨#[116, 104, 114, 101, 97, 100]⟩ : ByteArray)) (Nat.le_trans (Nat.add_le_add z zt) (by decide)))
  go_upto_region 4 with (first
    | (go_at_call 10; refine (C.out _ hW).mono ?_; clear hW h; rintro r w ⟨rfl, hW⟩))
  clear C
  have z : (addW s1 ((⟨#[116, 104, 114, 101, 97, 100]⟩ : ByteArray))).size ≤ 30 := Nat.le_trans (Nat.le_trans (addW_size _ _) (Nat.add_le_add_right (Nat.add_le_add z zt) 1)) (by omega)
  obtain ⟨s2, E2⟩ : ∃ q, Hid (q = addW s1 ((⟨#[116, 104, 114, 101, 97, 100]⟩ : ByteArray))) := ⟨_, rfl⟩
  have p1 : 1 ≤ (addW s1 ((⟨#[116, 104, 114, 101, 97, 100]⟩ : ByteArray))).size := Nat.le_trans p1 (addW_ge _ _)
  rw [← E2.out] at hW z p1
  -- addW s1 ((⟨#[116, 104, 114, 101, 97, 100]⟩ : ByteArray)) = s2 at hW z E2
  have h := hW.has
  have C := Lib.hid (fun w (hW : WM σ M1 b s2 w) => number_any hW HM.out HP.out x.th hx.out.th.1 hx.out.th.2 (Nat.le_trans z (by decide)))
  go_upto_region 5 with (first
    | (with_reducible show wpList _ _ _ ({ dst := _, op := Op.load 3 _, type := _, pos := _, after := _, guard := _ } :: _) _ _; refine wpList_load1_has h rfl 3 _ rfl rfl hb1 d_th Tryd.underlying3 rfl ?_)
    | (go_at_call 12; refine (C.out _ hW).mono ?_; clear hW h; rintro r w ⟨rfl, hW⟩))
  clear C
  have z : (addW s2 (decI x.th)).size ≤ 52 := Nat.le_trans (Nat.le_trans (addW_size _ _) (Nat.add_le_add_right (Nat.add_le_add z (decI_size hx.out.th.1 hx.out.th.2)) 1)) (by omega)
  obtain ⟨s3, E3⟩ : ∃ q, Hid (q = addW s2 (decI x.th)) := ⟨_, rfl⟩
  have p1 : 1 ≤ (addW s2 (decI x.th)).size := Nat.le_trans p1 (addW_ge _ _)
  rw [← E3.out] at hW z p1
  -- addW s2 (decI x.th) = s3 at hW z E3
  have h := hW.has
  go_upto_region 6 with (first
    | (with_reducible show wpList _ _ _ ({ dst := _, op := Op.load 3 _, type := _, pos := _, after := _, guard := _ } :: _) _ _; refine wpList_load1_has h rfl 3 _ rfl rfl hb1 d_wh Tryd.underlying3 rfl ?_))
  have h := hW.has
  have h := hW.has
  have zt : ((⟨#[103, 97, 118, 101]⟩ : ByteArray)).size ≤ 4 := by decide
  have C := Lib.hid (fun w (hW : WM σ M1 b s3 w) => wm_word hW HM.out ((⟨#[103, 97, 118, 101]⟩ : ByteArray)) (Nat.le_trans (Nat.add_le_add z zt) (by decide)))
  go_upto_region 7 with (first
    | (go_at_call 10; refine (C.out _ hW).mono ?_; clear hW h; rintro r w ⟨rfl, hW⟩))
  clear C
  have z : (addW s3 ((⟨#[103, 97, 118, 101]⟩ : ByteArray))).size ≤ 57 := Nat.le_trans (Nat.le_trans (addW_size _ _) (Nat.add_le_add_right (Nat.add_le_add z zt) 1)) (by omega)
  obtain ⟨s4, E4⟩ : ∃ q, Hid (q = addW s3 ((⟨#[103, 97, 118, 101]⟩ : ByteArray))) := ⟨_, rfl⟩
  have p1 : 1 ≤ (addW s3 ((⟨#[103, 97, 118, 101]⟩ : ByteArray))).size := Nat.le_trans p1 (addW_ge _ _)
  rw [← E4.out] at hW z p1
  -- addW s3 ((⟨#[103, 97, 118, 101]⟩ : ByteArray)) = s4 at hW z E4
  have h := hW.has
  have hu : ∀ u ∈ [x.hd], u < 18446744073709551616 := by intro u hu; simp only [List.mem_cons, List.not_mem_nil, or_false] at hu; rcases hu with rfl <;> first  | exact hx.out.hd
  have zb : (addWs s4 [x.hd]).size ≤ s4.size + 21 := addWs_size s4 [x.hd] hu
  have C := Lib.hid (fun w (hW : WM σ M1 b s4 w) => bits_any (hW.bel ((Below.refl _ _).alloc (Nat.le_refl _) (.cells (u64c [x.hd]) 22))) HM.out HP.out [x.hd] hu (by simp) (Nat.le_trans z (by decide)) w.heap.size (heap_alloc_new w _) (Nat.ne_of_gt hW.wr.lt))
  unfold u64c at C
  simp only [List.map_cons, List.map_nil, List.length_cons, List.length_nil] at C
  go_upto_region 20 with (first
    | (with_reducible show wpList _ _ _ ({ dst := _, op := Op.load 22 _, type := _, pos := _, after := _, guard := _ } :: _) _ _; refine wpList_load1_has h rfl 22 _ rfl rfl hb1 d_hd Tryd.underlying22 rfl ?_)
    | (go_at_call 14; refine (C.out _ hW).mono ?_; clear hW h; rintro r w ⟨rfl, hW⟩))
  clear C hu
  have z : (addWs s4 [x.hd]).size ≤ 78 := Nat.le_trans (Nat.le_trans zb (Nat.add_le_add_right z _)) (by omega)
  obtain ⟨s5, E5⟩ : ∃ q, Hid (q = addWs s4 [x.hd]) := ⟨_, rfl⟩
  have p1 : 1 ≤ (addWs s4 [x.hd]).size := Nat.le_trans p1 (addWs_ge _ _)
  rw [← E5.out] at hW z p1
  -- addWs s4 [x.hd] = s5 at hW z E5
  have h := hW.has
  have C := Lib.hid (string_any hW.wr p1)
  have HH := Lib.hid h
  clear hW
  go_wp2_with (first
    | (go_at_call 16; refine C.out.mono ?_; rintro r w ⟨rfl, hb⟩))
  go_ret
  refine ⟨?_, (HH.out.fr1 HM.out hb).le hle⟩
  rw [E5.out, E4.out, E3.out, E2.out, E1.out, E0.out]
  unfold implLine preL
  rw [if_neg HW0.out, if_neg HW1.out]
  rfl
theorem viewLine_eq {σ w : World} {M : Mm} (h : Has σ M w) (hT : PowT M) (x : Sn) (hx : x.Ok) :
    Calls Tryd.prog 6 #[.agg x.cells] w fun r w' => r = .returned (.string (implLine x)) ∧ Has σ M w' := by
  by_cases h0 : x.wh = 0
  · exact viewLine_0 h hT x hx h0
  · by_cases h1 : x.wh = 1
    · exact viewLine_1 h hT x hx h1
    · exact viewLine_2 h hT x hx h0 h1
end Go.Proofs.YtngiabfpfklmjaaDoor

