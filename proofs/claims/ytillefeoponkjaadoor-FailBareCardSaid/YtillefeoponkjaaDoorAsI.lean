/- Walks of law 8: the error that is made and noted. -/
import Derived.Test.YtillefeoponkjaaDoorAsH
namespace Go.Proofs.YtillefeoponkjaaDoor
open Go.RowKit
set_option linter.unusedVariables false
set_option linter.unusedSimpArgs false
def consE (e : Value) (E : Nat → Value) : Nat → Value
  | 0 => e
  | i + 1 => E i
theorem Chain.cons {M : Mm} {E : Nat → Value} {m : Nat} {c : Int} {e : Value} (h : Chain M E m c) (hm : m + 1 ≤ 1000) (hL : Link M e (E 0)) : Chain M (consE e E) (m + 1) c := by
  refine ⟨hm, fun i hi => ?_, h.last⟩
  cases i with
  | zero => exact hL
  | succ i => exact h.link i (by omega)
theorem Chain3.cons {E : Nat → Value} {m : Nat} {x : Option Nat} (h : Chain3 E m x) (a : ByteArray) : Chain3 (consE (noteV a (E 0)) E) (m + 1) x := by
  refine ⟨fun i hi => ?_, h.last⟩
  cases i with
  | zero => exact ⟨a, rfl⟩
  | succ i => exact h.link i (by omega)
/-- An error that was made in block b, and noted k times. -/
structure Noted (M : Mm) (E : Nat → Value) (k b : Nat) (c : Int) : Prop where
  chain : Chain M E (k + 1) c
  first : Chain3 E k (some b)
theorem Noted.new {M : Mm} {b : Nat} {t l : Int} {wh : ByteArray} {c : Int} (hb : M b = some (.cells (errCells t l wh (codeErr c)) 45)) : Noted M (consE (perrV b) fun _ => codeErr c) 0 b c :=
  ⟨⟨by decide, fun i hi => by obtain rfl : i = 0 := by omega
                              exact .inr (.inl ⟨b, t, l, wh, rfl, hb⟩), rfl⟩, ⟨fun i hi => absurd hi (by omega), ⟨fun d hd => by cases hd; rfl, fun hn => by cases hn⟩⟩⟩
theorem Noted.note {M : Mm} {E : Nat → Value} {k b : Nat} {c : Int} (h : Noted M E k b c) (hk : k ≤ 900) (a : ByteArray) : Noted M (consE (noteV a (E 0)) E) (k + 1) b c :=
  ⟨h.chain.cons (by omega) (.inl ⟨a, rfl⟩), h.first.cons a⟩
theorem Noted.mono {M M' : Mm} {E : Nat → Value} {k b : Nat} {c : Int} (h : Noted M E k b c) (hle : M.le M') : Noted M' E k b c := ⟨h.chain.mono hle, h.first⟩

set_option maxHeartbeats 1000000 in
theorem of_ok {σ w : World} {M : Mm} (h : Has σ M w) (t l : Int) (wh : ByteArray) (v : Value) (ns : List ByteArray) (hv : Rd M 1 v ns.length (strs ns)) (h40 : ns.length ≤ 40) :
    Calls Tryd.prog 8 #[.agg (sCells t l wh 0 v)] w fun r w' => r = .returned .nilIface ∧ Has σ M w' := by
  obtain ⟨_, A, cp, rfl, hc, hA⟩ := hv
  generalize hn0 : ns.length = n at hA hc h40 ⊢
  have HN := Lib.hid hn0
  clear hn0
  go_enter Tryd.func8, Tryd.ntmps8
  go_upto_region 1 with (first
    | ((with_reducible show wpList _ _ _ ({ dst := _, op := Op.box 25 _, type := _, pos := _, after := _, guard := _ } :: _) _ _); refine wpList_box_has h rfl 25 _ rfl ?_; clear h; intro bx w h hn; try simp only [Act.put, List.setIfInBounds_toArray, List.set_cons_zero, List.set_cons_succ]))
  generalize hM1 : M.upd bx _ = M1 at h
  have hle : M.le M1 := by rw [← hM1]; exact Mm.le_upd' hn _
  have hbx : M1 bx = some (.cells (sCells t l wh 0 (.slice A n cp)) 25) := by rw [← hM1]; exact Mm.upd_same _ _ _
  clear hM1
  have d0 : (sCells t l wh 0 (.slice A n cp))[0]? = some (.int .i64 t) := rfl
  have d1 : (sCells t l wh 0 (.slice A n cp))[1]? = some (.int .i64 l) := rfl
  have d2 : (sCells t l wh 0 (.slice A n cp))[2]? = some (.string wh) := rfl
  have d3 : (sCells t l wh 0 (.slice A n cp))[3]? = some (.int .i64 0) := rfl
  have d4 : (sCells t l wh 0 (.slice A n cp))[4]? = some (.slice A n cp) := rfl
  have N := Lib.hid (new_ok t l wh)
  go_wp2_with (first
    | (go_at_call 19; refine (N.out _).mono ?_; rintro r w' ⟨rfl, rfl⟩)
    | (with_reducible show wpList _ _ _ ({ dst := _, op := Op.load 3 _, type := _, pos := _, after := _, guard := _ } :: _) _ _; refine wpList_load1_has h rfl 3 _ rfl rfl hbx d0 Tryd.underlying3 rfl ?_)
    | (with_reducible show wpList _ _ _ ({ dst := _, op := Op.load 3 _, type := _, pos := _, after := _, guard := _ } :: _) _ _; refine wpList_load1_has h rfl 3 _ rfl rfl hbx d1 Tryd.underlying3 rfl ?_)
    | (with_reducible show wpList _ _ _ ({ dst := _, op := Op.load 9 _, type := _, pos := _, after := _, guard := _ } :: _) _ _; refine wpList_load1_has h rfl 9 _ rfl rfl hbx d2 Tryd.underlying9 rfl ?_)
    | (with_reducible show wpList _ _ _ ({ dst := _, op := Op.load 22 _, type := _, pos := _, after := _, guard := _ } :: _) _ _; refine wpList_load1_has h rfl 22 _ rfl rfl hbx d3 Tryd.underlying22 rfl ?_))
  go_wp2
  go_loopw [3, 4] (fun e i wr => Has σ M1 wr ∧ e = .nilIface ∧ ∃ k : Nat, k ≤ n ∧ i = .int .i64 k) (fun _ i _ => n - (intOf i).toNat)
  case atStart => exact ⟨h, rfl, 0, Nat.zero_le _, rfl⟩
  case round =>
    clear h w
    obtain ⟨w, rfl⟩ : ∃ x : World, x = wr := ⟨_, rfl⟩
    obtain ⟨h, rfl, k, hk, rfl⟩ := hrel
    by_cases hlt : k < n
    · obtain ⟨b1, o1, cs1, t1, f1, rfl, hM1, hx1⟩ := hA (by omega)
      have e1 := hx1 k (.string (ns.getD k ⟨#[]⟩)) (by have := HN.out; simp [strs, show k < ns.length by omega])
      clear hA hx1
      generalize ns.getD k ⟨#[]⟩ = a at e1
      replace hM1 := hle _ _ hM1
      go_wp2_with (first
        | (with_reducible show wpList _ _ _ ({ dst := _, op := Op.load 23 _, type := _, pos := _, after := _, guard := _ } :: _) _ _; refine wpList_load1_has h rfl 23 _ rfl rfl hbx d4 Tryd.underlying23 rfl ?_)
        | (with_reducible show wpList _ _ _ ({ dst := _, op := Op.load 9 _, type := _, pos := _, after := _, guard := _ } :: _) _ _; refine wpList_load1_has h rfl 9 _ rfl rfl hM1 e1 Tryd.underlying9 rfl ?_)
        | (go_at_call 16; refine (note_nil h a).mono ?_; clear h; rintro r w ⟨rfl, h⟩))
      go_roundw
      case rel => exact ⟨h, rfl, k + 1, by omega, by go_num⟩
      case measure => simp [intOf]; omega
    · clear hA
      obtain rfl : k = n := by omega
      go_wp2_with (first
        | (with_reducible show wpList _ _ _ ({ dst := _, op := Op.load 23 _, type := _, pos := _, after := _, guard := _ } :: _) _ _; refine wpList_load1_has h rfl 23 _ rfl rfl hbx d4 Tryd.underlying23 rfl ?_))
      go_ret
      exact ⟨rfl, h.le hle⟩

set_option maxHeartbeats 1000000 in
theorem of_err {σ w : World} {M : Mm} (h : Has σ M w) (t l : Int) (wh : ByteArray) (c : Int) (hc0 : c ≠ 0) (v : Value) (ns : List ByteArray) (hv : Rd M 1 v ns.length (strs ns)) (h40 : ns.length ≤ 40) :
    Calls Tryd.prog 8 #[.agg (sCells t l wh c v)] w fun r w' => ∃ b M' E, r = .returned (E 0) ∧ Has σ M' w' ∧ M.le M' ∧ M' b = some (.cells (errCells t l wh (codeErr c)) 45) ∧ Noted M' E ns.length b c := by
  obtain ⟨_, A, cp, rfl, hc, hA⟩ := hv
  generalize hn0 : ns.length = n at hA hc h40 ⊢
  have HN := Lib.hid hn0
  clear hn0
  go_enter Tryd.func8, Tryd.ntmps8
  go_upto_region 1 with (first
    | ((with_reducible show wpList _ _ _ ({ dst := _, op := Op.box 25 _, type := _, pos := _, after := _, guard := _ } :: _) _ _); refine wpList_box_has h rfl 25 _ rfl ?_; clear h; intro bx w h hn; try simp only [Act.put, List.setIfInBounds_toArray, List.set_cons_zero, List.set_cons_succ]))
  generalize hM1 : M.upd bx _ = M1 at h
  have hle : M.le M1 := by rw [← hM1]; exact Mm.le_upd' hn _
  have hbx : M1 bx = some (.cells (sCells t l wh c (.slice A n cp)) 25) := by rw [← hM1]; exact Mm.upd_same _ _ _
  clear hM1
  have d0 : (sCells t l wh c (.slice A n cp))[0]? = some (.int .i64 t) := rfl
  have d1 : (sCells t l wh c (.slice A n cp))[1]? = some (.int .i64 l) := rfl
  have d2 : (sCells t l wh c (.slice A n cp))[2]? = some (.string wh) := rfl
  have d3 : (sCells t l wh c (.slice A n cp))[3]? = some (.int .i64 c) := rfl
  have d4 : (sCells t l wh c (.slice A n cp))[4]? = some (.slice A n cp) := rfl
  have N := Lib.hid (failNew_eq h t l wh c hc0)
  clear hc0
  go_wp2_with (first
    | (go_at_call 19; refine (N.out).mono ?_; clear h; rintro r w' ⟨b, M2, rfl, h, hle2, hb, hnb⟩)
    | (with_reducible show wpList _ _ _ ({ dst := _, op := Op.load 3 _, type := _, pos := _, after := _, guard := _ } :: _) _ _; refine wpList_load1_has h rfl 3 _ rfl rfl hbx d0 Tryd.underlying3 rfl ?_)
    | (with_reducible show wpList _ _ _ ({ dst := _, op := Op.load 3 _, type := _, pos := _, after := _, guard := _ } :: _) _ _; refine wpList_load1_has h rfl 3 _ rfl rfl hbx d1 Tryd.underlying3 rfl ?_)
    | (with_reducible show wpList _ _ _ ({ dst := _, op := Op.load 9 _, type := _, pos := _, after := _, guard := _ } :: _) _ _; refine wpList_load1_has h rfl 9 _ rfl rfl hbx d2 Tryd.underlying9 rfl ?_)
    | (with_reducible show wpList _ _ _ ({ dst := _, op := Op.load 22 _, type := _, pos := _, after := _, guard := _ } :: _) _ _; refine wpList_load1_has h rfl 22 _ rfl rfl hbx d3 Tryd.underlying22 rfl ?_))
  go_wp2
  have hbx := hle2 _ _ hbx
  have NN := Lib.hid (Noted.new hb)
  go_loopw [3, 4] (fun e i wr => Has σ M2 wr ∧ ∃ (k : Nat) (E : Nat → Value), k ≤ n ∧ i = .int .i64 k ∧ e = E 0 ∧ Noted M2 E k b c) (fun _ i _ => n - (intOf i).toNat)
  case atStart => exact ⟨h, 0, _, Nat.zero_le _, rfl, rfl, NN.out⟩
  case round =>
    clear h NN N
    obtain ⟨w, rfl⟩ : ∃ x : World, x = wr := ⟨_, rfl⟩
    obtain ⟨h, k, E, hk, rfl, hE, hN⟩ := hrel
    obtain ⟨te, ve, hv⟩ := hN.chain.some 0 (Nat.zero_le _)
    replace hE := hE.trans hv
    subst hE
    have HV := Lib.hid hv
    have NN := Lib.hid hN
    clear hv hN
    by_cases hlt : k < n
    · obtain ⟨b1, o1, cs1, t1, f1, rfl, hM1, hx1⟩ := hA (by omega)
      have e1 := hx1 k (.string (ns.getD k ⟨#[]⟩)) (by have := HN.out; simp [strs, show k < ns.length by omega])
      clear hA hx1
      generalize ns.getD k ⟨#[]⟩ = a at e1
      replace hM1 := hle2 _ _ (hle _ _ hM1)
      have C := Lib.hid (note_eq h a te ve)
      have N2 := Lib.hid (NN.out.note (by omega) a)
      rw [HV.out] at N2
      go_wp2_with (first
        | (with_reducible show wpList _ _ _ ({ dst := _, op := Op.load 23 _, type := _, pos := _, after := _, guard := _ } :: _) _ _; refine wpList_load1_has h rfl 23 _ rfl rfl hbx d4 Tryd.underlying23 rfl ?_)
        | (with_reducible show wpList _ _ _ ({ dst := _, op := Op.load 9 _, type := _, pos := _, after := _, guard := _ } :: _) _ _; refine wpList_load1_has h rfl 9 _ rfl rfl hM1 e1 Tryd.underlying9 rfl ?_)
        | (go_at_call 16; refine (C.out).mono ?_; clear h; rintro r w ⟨rfl, h⟩))
      go_roundw
      case rel => exact ⟨h, k + 1, _, by omega, by go_num, rfl, N2.out⟩
      case measure => simp [intOf]; omega
    · clear hA
      obtain rfl : k = n := by omega
      go_wp2_with (first
        | (with_reducible show wpList _ _ _ ({ dst := _, op := Op.load 23 _, type := _, pos := _, after := _, guard := _ } :: _) _ _; refine wpList_load1_has h rfl 23 _ rfl rfl hbx d4 Tryd.underlying23 rfl ?_))
      go_ret
      exact ⟨b, M2, E, by rw [HV.out]; rfl, h, Mm.le_trans hle hle2, hb, NN.out⟩
end Go.Proofs.YtillefeoponkjaaDoor
