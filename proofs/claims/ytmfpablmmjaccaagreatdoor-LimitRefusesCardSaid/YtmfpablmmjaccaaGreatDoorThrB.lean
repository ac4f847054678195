/- Walks of layer 20 (thread): Call. -/
import Derived.Test.YtmfpablmmjaccaaGreatDoorThr
namespace Go.Proofs.YtmfpablmmjaccaaGreatDoor
open Go.RowKit
set_option linter.unusedVariables false
set_option linter.unusedSimpArgs false
set_option linter.unnecessarySimpa false
def ThrS.call (x : ThrS) (fn : Int) (us : List Int) : ThrS := { x with frames := x.frames ++ [⟨fn, 0, fun i => us.getD i 0⟩] }
theorem call_cells (fn : Int) (us : List Int) (hm : us.length ≤ 16) :
    ((FrameS.row ⟨fn, 0, fun _ => 0⟩).toList.take 2 ++ u64s us ++ (FrameS.row ⟨fn, 0, fun _ => 0⟩).toList.drop (2 + us.length)).toArray = FrameS.row ⟨fn, 0, fun i => us.getD i 0⟩ := by
  have e1 : (FrameS.row ⟨fn, 0, fun _ => 0⟩).toList = .int .i64 fn :: .int .i64 0 :: (List.range 16).map fun i => .int .u64 0 := rfl
  have e2 : (FrameS.row ⟨fn, 0, fun i => us.getD i 0⟩).toList = .int .i64 fn :: .int .i64 0 :: (List.range 16).map fun i => .int .u64 (us.getD i 0) := rfl
  apply Array.toList_inj.1
  rw [e2, e1]
  have e3 : u64s us ++ ((List.range 16).map fun i => Value.int .u64 0).drop us.length = (List.range 16).map fun i => .int .u64 (us.getD i 0) := by
    apply List.ext_getElem?
    intro i
    by_cases hi : i < us.length
    · rw [List.getElem?_append_left (by simpa [u64s] using hi)]
      simp [u64s, hi, show i < 16 by omega]
    · rw [List.getElem?_append_right (by simp [u64s]; omega)]
      simp only [u64s, List.length_map, List.getElem?_drop, List.getElem?_map]
      rw [show us.length + (i - us.length) = i by omega]
      by_cases h16 : i < 16
      · simp [h16, List.getElem?_eq_none (show us.length ≤ i by omega)]
      · simp [h16]
  rw [← e3, Nat.add_comm 2]
  simp
theorem info_pfr : (Tryz.prog.info? 116).map (fun i => (i.zero, i.size, i.bytes)) = some (some (.pointer none), 1, 8) := by kernel_rfl
theorem info1_u64' : (Tryz.prog.info? 37).map (·.size) = some 1 := by kernel_rfl
section
variable {σ w : World} {M M' : Mm} {lab lab' : Nat → Nat} {A : Nat → Prop} {t p : Nat} {x : ThrS} {fv hv : Value} {fbs : List Nat} {b : Nat}
/-- What is known of a thread behind a call: another row of frames, with one more. -/
theorem Thr.called (hT : Thr M lab t p x fv hv fbs) {f : FrameS} {x' : ThrS} (hx : x' = { x with frames := x.frames ++ [f] }) (hb : M b = none) {M3 : Mm} {v : Value} (ht : lab b = 12 + 4 * t)
    (hle : ((M.upd b (.cells f.row 119)).out lab (11 + 4 * t)).le M3) (ho : Own ((M.upd b (.cells f.row 119)).out lab (11 + 4 * t)) M3 116 1 v (fbs.length + 1) (ptrs (fbs ++ [b]))) :
    ∃ lab', Kp (OfThr t) M lab (M3.upd p (.cells (x'.row v hv) 42)) lab' ∧ Thr (M3.upd p (.cells (x'.row v hv) 42)) lab' t p x' v hv (fbs ++ [b]) := by
  subst hx
  obtain ⟨lab', hK, hR⟩ := Row.grow hle ho
  have k1 : Kp Non M lab (M.upd b (.cells f.row 119)) lab := fun c o hc _ => ⟨Mm.upd_of hb hc, rfl⟩
  have k2 : Kp (OfThr t) M lab M3 lab' := k1.non.trans (hK.mono fun k e => by subst e; exact ⟨by omega, by omega⟩)
  have kk := k1.non.trans hK
  obtain ⟨p1, p2⟩ := kk.get hT.obj hT.mark (by omega)
  have k3 : Kp (fun j => j = 10 + 4 * t) M3 lab' (M3.upd p (.cells (ThrS.row { x with frames := x.frames ++ [f] } v hv) 42)) lab' := Kp.upd p2 _
  have hbb := hK.get (Mm.upd_same _ b (.cells f.row 119)) ht (by omega)
  have k4 := kk.mono (B := fun j => j = 11 + 4 * t ∨ j = 10 + 4 * t) (fun _ h => .inl h) |>.trans (k3.mono fun _ h => .inr h)
  refine ⟨lab', k2.trans (k3.mono fun k e => by subst e; exact ⟨by omega, by omega⟩), Mm.upd_same _ _ _, p2, ?_, by simp [hT.flen], ?_, ?_, hT.hrow.keep k4 (by omega)⟩
  · have := hR.keep k3 (by omega)
    rw [List.length_append]
    exact this
  · rw [List.nodup_append]
    refine ⟨hT.nodup, by simp, fun c hc d hd => ?_⟩
    simp at hd
    subst hd
    intro e
    subst e
    obtain ⟨i, hi⟩ := List.getElem?_of_mem hc
    have hf : ∃ f', x.frames[i]? = some f' := by
      have : i < fbs.length := by
        rcases Nat.lt_or_ge i fbs.length with h | h
        · exact h
        · rw [List.getElem?_eq_none h] at hi; cases hi
      exact ⟨_, List.getElem?_eq_getElem (by rw [← hT.flen]; exact this)⟩
    obtain ⟨f', hf⟩ := hf
    rw [(hT.frame _ _ _ hi hf).1] at hb
    cases hb
  · intro i c f' hc hf
    rcases Nat.lt_or_ge i fbs.length with hi | hi
    · rw [List.getElem?_append_left hi] at hc
      have hi' : i < x.frames.length := by rw [← hT.flen]; exact hi
      rw [List.getElem?_append_left hi'] at hf
      obtain ⟨a1, a2⟩ := hT.frame _ _ _ hc hf
      exact k4.get a1 a2 (by omega)
    · rw [List.getElem?_append_right hi] at hc
      have hi' : x.frames.length ≤ i := by rw [← hT.flen]; exact hi
      rw [List.getElem?_append_right hi', ← hT.flen] at hf
      cases hj : i - fbs.length with
      | succ j => rw [hj] at hc; simp at hc
      | zero =>
        rw [hj] at hc hf
        simp at hc hf
        subst hc hf
        exact k3.get hbb.1 hbb.2 (by omega)
end
set_option maxHeartbeats 2000000 in
theorem thrCall_eq {σ w : World} {M : Mm} {lab : Nat → Nat} {t p : Nat} {x : ThrS} {fv hv : Value} {fbs : List Nat} (h : Has σ M w) (hT : Thr M lab t p x fv hv fbs) (fn : Int) {rv : Value} {us : List Int} (hr : Rd M 1 rv us.length (u64s us)) (hm : us.length ≤ 16) (hn : fbs.length < 1000000) :
    Calls Tryz.prog 27 #[.pointer (some ⟨p, 0, none⟩), .int .i64 fn, rv] w fun r w' => r = .returned (.tuple #[]) ∧ ∃ M' lab', Has σ M' w' ∧ Kp (OfThr t) M lab M' lab' ∧ IsThr M' lab' t p (x.call fn us) := by
  obtain ⟨x', HX⟩ : ∃ x', Hid (x' = x.call fn us) := ⟨_, rfl⟩
  rw [← HX.out]
  go_enter Tryz.func27, Tryz.ntmps27
  go_upto_region 2 with (fail)
  have k1 := h.alloc (.cells (FrameS.row ⟨fn, 0, fun _ => 0⟩) 119)
  have n1 := h.fresh
  have hr1 := hr.le (Mm.le_upd' n1 (.cells (FrameS.row ⟨fn, 0, fun _ => 0⟩) 119))
  have hb1 := Mm.upd_same M w.heap.size (.cells (FrameS.row ⟨fn, 0, fun _ => 0⟩) 119)
  have c16 : (FrameS.row ⟨fn, 0, fun _ => 0⟩).size = 18 := rfl
  generalize hwx : w.alloc _ = wx
  have k1' : Has σ (M.upd w.heap.size (.cells (FrameS.row ⟨fn, 0, fun _ => 0⟩) 119)) wx := by rw [← hwx]; exact k1
  clear hwx k1 h
  generalize w.heap.size = b at k1' n1 hr1 hb1 ⊢
  clear w
  obtain ⟨w, rfl⟩ : ∃ q : World, q = wx := ⟨_, rfl⟩
  have h := k1'
  clear k1'
  have hcc := call_cells fn us hm
  generalize FrameS.row ⟨fn, 0, fun _ => 0⟩ = cur at h hr1 hb1 c16 hcc
  have hf := show 2 + us.length ≤ cur.size by omega
  go_upto_region 3 with (first
    | ((with_reducible show wpList _ _ _ ({ dst := _, op := Op.call { callee := .builtin .copy, args := _, argTypes := _ }, type := _, pos := _, after := _, guard := _ } :: _) _ _); refine wpList_copy_in h rfl _ _ 40 40 rfl rfl rfl hr1 Tryz.underlying40 info1_u64' hb1 hm hf (u64s_one us) ?_; clear h; intro w h))
  rw [Mm.upd_upd, hcc] at h
  have hT2 : Thr M (fun c => if c = b then 12 + 4 * t else lab c) t p x fv hv fbs := hT.keep (A := Non) (fun c o hc _ => ⟨hc, if_neg (Mm.ne_of n1 hc)⟩) (fun _ _ hf => hf)
  have k0 : Kp (OfThr t) M lab M (fun c => if c = b then 12 + 4 * t else lab c) := fun c o hc _ => ⟨hc, if_neg (Mm.ne_of n1 hc)⟩
  have hlb : (fun c => if c = b then 12 + 4 * t else lab c) b = 12 + 4 * t := if_pos rfl
  generalize (fun c => if c = b then 12 + 4 * t else lab c) = lab2 at hT2 k0 hlb
  clear hT hr hr1 hb1 c16 hcc hf cur
  have CD := Lib.hid (fun (M3 : Mm) (v : Value) => hT2.called (f := ⟨fn, 0, fun i => us.getD i 0⟩) HX.out n1 (M3 := M3) (v := v) hlb)
  have hp := Mm.upd_of (o := .cells (FrameS.row ⟨fn, 0, fun i => us.getD i 0⟩) 119) n1 hT2.obj
  have e11 : (x.row fv hv)[11]? = some fv := rfl
  have hl11 : 11 < (x.row fv hv).size := show 11 < 13 by omega
  have EQ : Hid (∀ v, (x.row fv hv).setIfInBounds 11 v = x'.row v hv) := Lib.hid fun v => by rw [HX.out]; rfl
  have hown : Own ((M.upd b (.cells (FrameS.row ⟨fn, 0, fun i => us.getD i 0⟩) 119)).out lab2 (11 + 4 * t)) (M.upd b (.cells (FrameS.row ⟨fn, 0, fun i => us.getD i 0⟩) 119)) 116 1 fv fbs.length (ptrs fbs) :=
    hT2.frow.keep (A := Non) (fun c o hc _ => ⟨Mm.upd_of n1 hc, rfl⟩) (fun hf => hf)
  have hle := Mm.out_le (M.upd b (.cells (FrameS.row ⟨fn, 0, fun i => us.getD i 0⟩) 119)) lab2 (11 + 4 * t)
  have hpo := Mm.out_of (lab := lab2) (k := 11 + 4 * t) hp (by rw [hT2.mark]; omega)
  clear hT2 hlb n1
  generalize M.upd b _ = M2 at h hp hown hle hpo CD
  generalize x.row fv hv = row at hp e11 hl11 EQ hpo
  generalize hn' : fbs.length = n at hown hn CD
  go_wp2_with (first
    | (with_reducible show wpList _ _ _ ({ dst := _, op := Op.load 39 _, type := _, pos := _, after := _, guard := _ } :: _) _ _; refine wpList_load1_has h rfl 39 _ rfl rfl hp e11 Tryz.underlying39 rfl ?_)
    | (at_builtin; refine wpList_append_lit h hle rfl _ _ _ rfl rfl Tryz.underlying39 info_pfr rfl (by omega) rfl hown rfl rfl rfl (by omega) (by omega) ?_; clear h hle hown; intro v w hacc)
    | ((with_reducible show wpList _ _ _ ({ dst := _, op := Op.store 39 _ _, type := _, pos := _, after := _, guard := _ } :: _) _ _); obtain ⟨M3, h, hl3, ho3⟩ := hacc; obtain ⟨A, c, rfl⟩ := ho3.form; refine wpList_store1_has h rfl 39 _ _ rfl rfl rfl (hl3 _ _ hpo) hl11 rfl (by kernel_rfl) ?_; clear h; intro w h))
  go_end0
  refine ⟨rfl, ?_⟩
  have h2 : Has σ (M3.upd p (.cells (row.setIfInBounds 11 (.slice A (n + 1) c)) 42)) w := h
  rw [EQ.out] at h2
  have ho4 : Own (M2.out lab2 (11 + 4 * t)) M3 116 1 (.slice A (n + 1) c) (n + 1) (ptrs (fbs ++ [b])) := by
    have := ho3
    unfold ptrs at this ⊢
    rw [List.map_append]
    exact this
  obtain ⟨lab', hK, hT⟩ := CD.out M3 _ hl3 ho4
  exact ⟨_, h2, lab', k0.trans hK, _, _, _, hT⟩
end Go.Proofs.YtmfpablmmjaccaaGreatDoor
