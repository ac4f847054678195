/- Walks of layers 20, 21: steps that are none; a thread that isn't there. -/
import Derived.Test.YtjeeldacnllipaaGreatMachD
import Derived.Test.YtjeeldacnllipaaGreatThrC
namespace Go.Proofs.YtjeeldacnllipaaGreat
open Go.RowKit
set_option linter.unusedVariables false
set_option linter.unusedSimpArgs false
set_option linter.unnecessarySimpa false
section
variable {σ w : World} {K M M' : Mm} {lab lab' : Nat → Nat} {p : Nat} {s : MachS}
theorem thrDeep_none (h : Has σ M w) : Calls Tryz.prog 30 #[.pointer none] w fun r w' => r = .returned (.int .i64 0) ∧ Has σ M w' := by
  go_enter Tryz.func30, Tryz.ntmps30
  go_wp2
  go_ret
  exact ⟨rfl, h⟩
theorem thrTop_none (h : Has σ M w) : Calls Tryz.prog 32 #[.pointer none] w fun r w' => r = .returned (.pointer none) ∧ Has σ M w' := by
  have TD := Lib.hid (fun (w : World) (h : Has σ M w) => thrDeep_none h)
  go_enter Tryz.func32, Tryz.ntmps32
  go_wp2_with (first
    | (go_at_call 30; refine (TD.out _ h).mono ?_; clear h; rintro _ w ⟨rfl, h⟩))
  go_ret
  exact ⟨rfl, h⟩
theorem thrCall_none (h : Has σ M w) (fn : Int) (rv : Value) : Calls Tryz.prog 34 #[.pointer none, .int .i64 fn, rv] w fun r w' => r = .returned (.tuple #[]) ∧ Has σ M w' := by
  go_enter Tryz.func34, Tryz.ntmps34
  go_wp2
  go_end0
  exact ⟨rfl, h⟩
/-- No thread. -/
theorem step_nothr (h : Has σ M w) (hM : Mach M lab p s) (t : Int) (ht : t < 0 ∨ s.tp.length ≤ t) (dv : Value) : Calls Tryz.prog 33 #[.pointer (some ⟨p, 0, none⟩), .int .i64 t, dv] w fun r w' => r = .returned (.bool false) ∧ Has σ M w' := by
  have TH := Lib.hid (fun (w : World) (h : Has σ M w) => mThread_no h hM t ht)
  have TP := Lib.hid (fun (w : World) (h : Has σ M w) => thrTop_none h)
  clear hM ht
  go_enter Tryz.func33, Tryz.ntmps33
  go_wp2_with (first
    | (go_at_call 13; refine (TH.out _ h).mono ?_; clear h; rintro _ w ⟨rfl, h⟩)
    | (go_at_call 32; refine (TP.out _ h).mono ?_; clear h; rintro _ w ⟨rfl, h⟩))
  go_ret
  exact ⟨rfl, h⟩
/-- A thread that is within nothing, or doesn't run; or nothing to do. -/
theorem step_idle (h : Has σ M w) (hM : Mach M lab p s) {t q : Nat} (hq : s.tp[t]? = some q) (hn : (s.thr t).frames.length < 1000000) (dv : Value) (hi : (s.thr t).frames = [] ∨ ((s.thr t).st || (s.thr t).ki) = true ∨ dv = .nilFunc) : Calls Tryz.prog 33 #[.pointer (some ⟨p, 0, none⟩), .int .i64 (t : Nat), dv] w fun r w' => r = .returned (.bool false) ∧ Has σ M w' := by
  have TH := Lib.hid (fun (w : World) (h : Has σ M w) => mThread_yes h hM hq)
  obtain ⟨fv, hv, fbs, hT⟩ := hM.each t q hq
  have hlen := hT.flen
  rcases List.eq_nil_or_concat fbs with he | ⟨fb, b, he⟩
  · rw [he] at hT
    have TP := Lib.hid (fun (w : World) (h : Has σ M w) => thrTop_nil h hT)
    clear hM hq hT hi hn hlen
    go_enter Tryz.func33, Tryz.ntmps33
    go_wp2_with (first
      | (go_at_call 13; refine (TH.out _ h).mono ?_; clear h; rintro _ w ⟨rfl, h⟩)
      | (go_at_call 32; refine (TP.out _ h).mono ?_; clear h; rintro _ w ⟨rfl, h⟩))
    go_ret
    exact ⟨rfl, h⟩
  · rw [List.concat_eq_append] at he
    rw [he] at hT hlen
    have hne : (s.thr t).frames ≠ [] := fun e => by rw [e] at hlen; simp at hlen
    have TP := Lib.hid (fun (w : World) (h : Has σ M w) => thrTop_eq h hT (by simp at hlen; omega))
    have RU := Lib.hid (fun (w : World) (h : Has σ M w) => thrRuns_eq h hT)
    cases hr : ((s.thr t).st || (s.thr t).ki)
    · rw [hr] at hi
      have hdv : dv = .nilFunc := by
        rcases hi with hi | hi | hi
        · exact absurd hi hne
        · cases hi
        · exact hi
      subst hdv
      have hru : (!(s.thr t).st && !(s.thr t).ki) = true := by rw [← Bool.not_or, hr]; rfl
      rw [hru] at RU
      have hnf : ∀ w : World, (binOp .eql 122 .nilFunc .nilFunc).run Tryz.prog w = .ok (.bool true) w := fun w => by kernel_rfl
      clear hM hq hT hi hn hlen hr hru hne
      go_enter Tryz.func33, Tryz.ntmps33
      go_wp2_with (first
        | (go_at_call 13; refine (TH.out _ h).mono ?_; clear h; rintro _ w ⟨rfl, h⟩)
        | (go_at_call 32; refine (TP.out _ h).mono ?_; clear h; rintro _ w ⟨rfl, h⟩)
        | (go_at_call 76; refine (RU.out _ h).mono ?_; clear h; rintro _ w ⟨rfl, h⟩))
      go_ret
      exact ⟨rfl, h⟩
    · have hru : (!(s.thr t).st && !(s.thr t).ki) = false := by rw [← Bool.not_or, hr]; rfl
      rw [hru] at RU
      clear hM hq hT hi hn hlen hr hru hne
      go_enter Tryz.func33, Tryz.ntmps33
      go_wp2_with (first
        | (go_at_call 13; refine (TH.out _ h).mono ?_; clear h; rintro _ w ⟨rfl, h⟩)
        | (go_at_call 32; refine (TP.out _ h).mono ?_; clear h; rintro _ w ⟨rfl, h⟩)
        | (go_at_call 76; refine (RU.out _ h).mono ?_; clear h; rintro _ w ⟨rfl, h⟩))
      go_ret
      exact ⟨rfl, h⟩
/-- A thread is stalled, or isn't any more. -/
theorem Mach.stall (hM : Mach M lab p s) (hB : Base K M lab) {t q : Nat} (hq : s.tp[t]? = some q) (b : Bool) : ∃ row : Array Value, M q = some (.cells row 46) ∧ 9 < row.size ∧ Mach (M.upd q (.cells (row.setIfInBounds 9 (.bool b)) 46)) lab p { s with thr := fun j => if j = t then { s.thr t with st := b } else s.thr j } ∧ Base K (M.upd q (.cells (row.setIfInBounds 9 (.bool b)) 46)) lab := by
  obtain ⟨fv, hv, fbs, hT⟩ := hM.each t q hq
  have k1 : Kp (fun j => j = 10 + 4 * t) M lab (M.upd q (.cells ((ThrS.row { s.thr t with st := b } fv hv)) 46)) lab := Kp.upd hT.mark _
  have hK : Kp (OfThr t) M lab (M.upd q (.cells ((ThrS.row { s.thr t with st := b } fv hv)) 46)) lab := k1.mono fun k e => by subst e; exact ⟨by omega, by omega⟩
  have hT2 : IsThr (M.upd q (.cells ((ThrS.row { s.thr t with st := b } fv hv)) 46)) lab t q { s.thr t with st := b } :=
    ⟨fv, hv, fbs, Mm.upd_same _ _ _, hT.mark, hT.frow.keep k1 (by omega), hT.flen, hT.nodup, fun i b' f hb hf => k1.get (hT.frame i b' f hb hf).1 (hT.frame i b' f hb hf).2 (by omega), hT.hrow.keep k1 (by omega)⟩
  obtain ⟨a1, a2⟩ := hM.thrTo hB hq hK hT2
  exact ⟨(s.thr t).row fv hv, hT.obj, show 9 < 13 by omega, a1, a2⟩
end
end Go.Proofs.YtjeeldacnllipaaGreat
