/- Walks of layer 20 (thread): Call. -/
import Derived.Test.YtlpkimpdeeiaaaaGreatThr
namespace Go.Proofs.YtlpkimpdeeiaaaaGreat
open Go.RowKit
set_option linter.unusedVariables false
set_option linter.unusedSimpArgs false
set_option linter.unnecessarySimpa false
def ThrS.call (x : ThrS) (fn : Int) (us : List Int) : ThrS := { x with frames := x.frames ++ [⟨fn, 0, fun i => us.getD i 0⟩] }
theorem call_cells (fn : Int) (us : List Int) (hm : us.length ≤ 16) :
    ((FrameS.row ⟨fn, 0, fun _ => 0⟩).toList.take 2 ++ u64s us ++ (FrameS.row ⟨fn, 0, fun _ => 0⟩).toList.drop (2 + us.length)).toArray = FrameS.row ⟨fn, 0, fun i => us.getD i 0⟩ := by
  have e1 : (FrameS.row ⟨fn, 0, fun _ => 0⟩).toList = .int .i64 fn :: .int .i64 0 :: (List.range 16).map fun i => .int .u64 0 := rfl
  have e2 : (FrameS.row ⟨fn, 0, fun i => us.getD i 0⟩).toList = .int .i64 fn :: .int .i64 0 :: (List.range 16).map fun i => .int .u64 (us.getD i 0) := rfl
  apply Array.toList_inj.1
  rw [e2, e1]
  have e3 : u64s us ++ ((List.range 16).map fun i => Value.int .u64 0).drop us.length = (List.range 16).map fun i => .int .u64 (us.getD i 0) := by
    apply List.ext_getElem?
    intro i
    by_cases hi : i < us.length
    · rw [List.getElem?_append_left (by simpa [u64s] using hi)]
      simp [u64s, hi, show i < 16 by omega]
    · rw [List.getElem?_append_right (by simp [u64s]; omega)]
      simp only [u64s, List.length_map, List.getElem?_drop, List.getElem?_map]
      rw [show us.length + (i - us.length) = i by omega]
      by_cases h16 : i < 16
      · simp [h16, List.getElem?_eq_none (show us.length ≤ i by omega)]
      · simp [h16]
  rw [← e3, Nat.add_comm 2]
  simp
theorem info_pfr : (Tryz.prog.info? 200).map (fun i => (i.zero, i.size, i.bytes)) = some (some (.pointer none), 1, 8) := by kernel_rfl
theorem info1_u64' : (Tryz.prog.info? 46).map (·.size) = some 1 := by kernel_rfl
section
variable {σ w : World} {M M' : Mm} {lab lab' : Nat → Nat} {A : Nat → Prop} {t p : Nat} {x : ThrS} {fv hv : Value} {fbs : List Nat} {b : Nat}
/-- What is known of a thread behind a call: another row of frames, with one more. -/
theorem Thr.called (hT : Thr M lab t p x fv hv fbs) {f : FrameS} {x' : ThrS} (hx : x' = { x with frames := x.frames ++ [f] }) (hb : M b = none) {M3 : Mm} {v : Value} (ht : lab b = 12 + 4 * t)
    (hle : ((M.upd b (.cells f.row 204)).out lab (11 + 4 * t)).le M3) (ho : Own ((M.upd b (.cells f.row 204)).out lab (11 + 4 * t)) M3 200 1 v (fbs.length + 1) (ptrs (fbs ++ [b]))) :
    ∃ lab', Kp (OfThr t) M lab (M3.upd p (.cells (x'.row v hv) 112)) lab' ∧ Thr (M3.upd p (.cells (x'.row v hv) 112)) lab' t p x' v hv (fbs ++ [b]) := by
  subst hx
  obtain ⟨lab', hK, hR⟩ := Row.grow hle ho
  have k1 : Kp Non M lab (M.upd b (.cells f.row 204)) lab := fun c o hc _ => ⟨Mm.upd_of hb hc, rfl⟩
  have k2 : Kp (OfThr t) M lab M3 lab' := k1.non.trans (hK.mono fun k e => by subst e; exact ⟨by omega, by omega⟩)
  have kk := k1.non.trans hK
  obtain ⟨p1, p2⟩ := kk.get hT.obj hT.mark (by omega)
  have k3 : Kp (fun j => j = 10 + 4 * t) M3 lab' (M3.upd p (.cells (ThrS.row { x with frames := x.frames ++ [f] } v hv) 112)) lab' := Kp.upd p2 _
  have hbb := hK.get (Mm.upd_same _ b (.cells f.row 204)) ht (by omega)
  have k4 := kk.mono (B := fun j => j = 11 + 4 * t ∨ j = 10 + 4 * t) (fun _ h => .inl h) |>.trans (k3.mono fun _ h => .inr h)
  refine ⟨lab', k2.trans (k3.mono fun k e => by subst e; exact ⟨by omega, by omega⟩), Mm.upd_same _ _ _, p2, ?_, by simp [hT.flen], ?_, ?_, hT.hrow.keep k4 (by omega)⟩
  · have := hR.keep k3 (by omega)
    rw [List.length_append]
    exact this
  · rw [List.nodup_append]
    refine ⟨hT.nodup, by simp, fun c hc d hd => ?_⟩
    simp at hd
    subst hd
    intro e
    subst e
    obtain ⟨i, hi⟩ := List.getElem?_of_mem hc
    have hf : ∃ f', x.frames[i]? = some f' := by
      have : i < fbs.length := by
        rcases Nat.lt_or_ge i fbs.length with h | h
        · exact h
        · rw [List.getElem?_eq_none h] at hi; cases hi
      exact ⟨_, List.getElem?_eq_getElem (by rw [← hT.flen]; exact this)⟩
    obtain ⟨f', hf⟩ := hf
    rw [(hT.frame _ _ _ hi hf).1] at hb
    cases hb
  · intro i c f' hc hf
    rcases Nat.lt_or_ge i fbs.length with hi | hi
    · rw [List.getElem?_append_left hi] at hc
      have hi' : i < x.frames.length := by rw [← hT.flen]; exact hi
      rw [List.getElem?_append_left hi'] at hf
      obtain ⟨a1, a2⟩ := hT.frame _ _ _ hc hf
      exact k4.get a1 a2 (by omega)
    · rw [List.getElem?_append_right hi] at hc
      have hi' : x.frames.length ≤ i := by rw [← hT.flen]; exact hi
      rw [List.getElem?_append_right hi', ← hT.flen] at hf
      cases hj : i - fbs.length with
      | succ j => rw [hj] at hc; simp at hc
      | zero =>
        rw [hj] at hc hf
        simp at hc hf
        subst hc hf
        exact k3.get hbb.1 hbb.2 (by omega)
end
end Go.Proofs.YtlpkimpdeeiaaaaGreat
