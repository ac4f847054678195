/- Walks of layer 8 (fail): the code that an error is of. -/
import Derived.Test.YtillefeoponkjaaDoorAsC
namespace Go.Proofs.YtillefeoponkjaaDoor
open Go.RowKit Go.Extern.Stop Go.Stop Go.Extern
set_option linter.unusedVariables false
set_option linter.unusedSimpArgs false
theorem Mm.upd_le {M M1 : Mm} (hle : M.le M1) (p : Nat) (o : Obj) : (M.upd p o).le (M1.upd p o) := fun c o' hc => by
  unfold Mm.upd at hc ⊢
  split at hc
  · rw [if_pos (by assumption)]; exact hc
  · rw [if_neg (by assumption)]; exact hle _ _ hc

def rvC (t : Nat) (a : Addr) (f : Int) : Array Value := #[hnd t, .pointer (some a), .int .u64 f]

/-- An error that is not nil, behind so many links nil or a code. -/
structure Chain2 (M : Mm) (E : Nat → Value) (m : Nat) (c : Option Int) : Prop where
  link : ∀ i, i < m → Link M (E i) (E (i + 1))
  last : (∀ d, c = some d → E m = codeErr d) ∧ (c = none → E m = .nilIface ∧ 0 < m)
theorem Chain2.first {M : Mm} {E : Nat → Value} {m : Nat} {c : Option Int} (h : Chain2 M E m c) : ∃ t v, E 0 = .iface t v := by
  by_cases hm : 0 < m
  · exact (h.link 0 hm).some
  · obtain rfl : m = 0 := by omega
    cases c with
    | none => exact absurd (h.last.2 rfl).2 (by omega)
    | some d => exact ⟨_, _, h.last.1 d rfl⟩

set_option maxHeartbeats 4000000 in
theorem as_code {σ w : World} {M : Mm} (h : Has σ M w) (E : Nat → Value) (m : Nat) (c : Option Int) (hC : Chain2 M E m c) (p a : Nat) (old : Int) (tc : TypeId) (hp : M p = some (.cells #[.int .i64 old] 22)) (ha : M a = some (.cells #[.pointer (some ⟨p, 0, none⟩)] tc)) :
    Calls Tryd.prog 29 #[E 0, .iface 53 (.pointer (some ⟨p, 0, none⟩)), rval 53 ⟨a, 0, none⟩ 150, rty 22] w fun r w' =>
      (∀ d, c = some d → r = .returned (.bool true) ∧ Has σ (M.upd p (.cells #[.int .i64 d] 22)) w') ∧ (c = none → r = .returned (.bool false) ∧ Has σ M w') := by
  have h31 := @run_callFunc_extern Tryd.prog 31 _ ReflectliteType.typeOf Tryd.func31 (by kernel_rfl) (by kernel_rfl) (by kernel_rfl) (by kernel_rfl)
  have h71 := @run_callFunc_extern Tryd.prog 71 _ (ReflectliteType.relation "AssignableTo" ReflectliteType.assignableTo) Tryd.func71 (by kernel_rfl) (by kernel_rfl) (by kernel_rfl) (by kernel_rfl)
  have h34 := @run_callFunc_extern Tryd.prog 34 _ (ReflectliteValue.method (ReflectliteValue.valueError "reflectlite.Value.Elem" 0) ReflectliteValue.elem) Tryd.func34 (by kernel_rfl) (by kernel_rfl) (by kernel_rfl) (by kernel_rfl)
  have h26 := @run_callFunc_extern Tryd.prog 26 _ (fun args => ReflectliteValue.unpack (args.getD 0 (.tuple #[]))) Tryd.func26 (by kernel_rfl) (by kernel_rfl) (by kernel_rfl) (by kernel_rfl)
  have h35 := @run_callFunc_extern Tryd.prog 35 _ ReflectliteValue.set Tryd.func35 (by kernel_rfl) (by kernel_rfl) (by kernel_rfl) (by kernel_rfl)
  have tO1 := rv_typeOfN
  have tO2 := rv_typeOfE
  have tO3 := rv_typeOfC
  have mA := rv_methodAssignableTo
  have a1 := rv_asgNC
  have a2 := rv_asgEC
  have a3 := rv_asgCC
  have t1 := ta_AsN
  have t2 := ta_AsP
  have t4 := ta_UnN
  have t5 := ta_UnP
  have m1 := m_note_unwrap
  have m2 := m_ptr_unwrap
  unfold rty at tO1 tO2 tO3 a1 a2 a3
  unfold hnd at tO1 tO2 tO3 a1 a2 a3
  unfold rty rval hnd
  have H0 := Lib.hid hC
  clear hC
  generalize hE0 : E 0 = e0
  go_enter Tryd.func29, Tryd.ntmps29
  go_upto_region 1 with (first
    | ((with_reducible show wpList _ _ _ ({ dst := _, op := Op.box 61 _, type := _, pos := _, after := _, guard := _ } :: _) _ _); refine wpList_box_has h rfl 61 _ rfl ?_; clear h; intro bx w h hn; try simp only [Act.put, List.setIfInBounds_toArray, List.set_cons_zero, List.set_cons_succ]))
  go_wp2
  generalize hM1 : M.upd bx _ = M1 at h
  have hle : M.le M1 := by rw [← hM1]; exact Mm.le_upd' hn _
  have hbx : M1 bx = some (.cells (rvC 53 ⟨a, 0, none⟩ 150) 61) := by rw [← hM1]; exact Mm.upd_same _ _ _
  clear hM1
  have hp1 := hle _ _ hp
  have ha1 := hle _ _ ha
  have HF := H0.out.first
  have hpa : p ≠ bx := Mm.ne_of hn hp
  go_loopw [0] (fun e wr => Has σ M1 wr ∧ (∃ t v, e = .iface t v) ∧ ∃ k : Nat, k ≤ m ∧ E k = e) (fun e _ => m - lastAt E e m)
  case atStart =>
    obtain ⟨t, v, hv⟩ := HF
    exact ⟨h, ⟨t, v, hE0.symm.trans hv⟩, 0, Nat.zero_le _, hE0⟩
  case round =>
    clear h w hE0 HF
    obtain ⟨w, rfl⟩ : ∃ x : World, x = wr := ⟨_, rfl⟩
    obtain ⟨h, hi, k0, hk0, hek0⟩ := hrel
    obtain ⟨k, hk, hek, hK⟩ := lastAt_at hk0 hek0
    clear hek0 hk0 k0
    by_cases hlt : k < m
    · clear tO3 a3 h34 h26 h35
      have hL := (H0.out.link k hlt).le hle
      rw [hek] at hL
      by_cases hnil : E (k + 1) = .nilIface
      · have hc : c = none := by
          cases hc : c with
          | none => rfl
          | some d =>
            rcases Nat.lt_or_eq_of_le (Nat.succ_le_of_lt hlt) with h1 | h1
            · obtain ⟨t, v, hv⟩ := (H0.out.link (k + 1) h1).some; rw [hnil] at hv; cases hv
            · have := H0.out.last.1 d hc; rw [← h1, hnil] at this; cases this
        rw [hnil] at hL
        clear hnil hi
        have HC := Lib.hid hc
        clear hc
        rcases hL with ⟨a', rfl⟩ | ⟨b, t, l, wh, rfl, hb⟩ | ⟨rfl, hx⟩
        · clear hek hK
          unfold noteV
          have C := Lib.hid (note_unwrap h a' .nilIface)
          go_wp2_with (first
            | (go_at_call 66; refine (C.out).mono ?_; clear h; rintro r w ⟨rfl, h⟩))
          go_ret
          exact ⟨fun d hd => (by rw [HC.out] at hd; cases hd), fun _ => ⟨rfl, h.le hle⟩⟩
        · clear hek hK
          unfold perrV
          have C := Lib.hid (ptr_unwrap h hb)
          go_wp2_with (first
            | (go_at_call 18; refine (C.out).mono ?_; clear h; rintro r w ⟨rfl, h⟩))
          go_ret
          exact ⟨fun d hd => (by rw [HC.out] at hd; cases hd), fun _ => ⟨rfl, h.le hle⟩⟩
        · clear hek hK
          unfold pnilV
          have C := Lib.hid (nil_unwrap h)
          go_wp2_with (first
            | (go_at_call 18; refine (C.out).mono ?_; clear h; rintro r w ⟨rfl, h⟩))
          go_ret
          exact ⟨fun d hd => (by rw [HC.out] at hd; cases hd), fun _ => ⟨rfl, h.le hle⟩⟩
      · have hs : ∃ t v, E (k + 1) = .iface t v := by
          rcases Nat.lt_or_eq_of_le (Nat.succ_le_of_lt hlt) with h1 | h1
          · exact (H0.out.link (k + 1) h1).some
          · cases hc : c with
            | none => have := (H0.out.last.2 hc).1; rw [← h1] at this; exact absurd this hnil
            | some d => exact ⟨_, _, h1 ▸ H0.out.last.1 d hc⟩
        obtain ⟨t', v', hv'⟩ := hs
        rw [hv'] at hL
        have hge := lastAt_ge E _ m (k + 1) hlt hv'
        clear hnil hi
        have HV := Lib.hid hv'
        have HG := Lib.hid hge
        have HK := Lib.hid hK
        clear hv' hge hK
        rcases hL with ⟨a', rfl⟩ | ⟨b, t, l, wh, rfl, hb⟩ | ⟨rfl, hx⟩
        · clear hek
          unfold noteV at HK ⊢
          have C := Lib.hid (note_unwrap h a' (.iface t' v'))
          go_wp2_with (first
            | (go_at_call 66; refine (C.out).mono ?_; clear h; rintro r w ⟨rfl, h⟩))
          go_roundw
          case rel => exact ⟨h, ⟨_, _, rfl⟩, k + 1, hlt, HV.out⟩
          case measure => rw [HK.out]; have := HG.out; omega
        · clear hek
          unfold perrV at HK ⊢
          have C := Lib.hid (ptr_unwrap h hb)
          go_wp2_with (first
            | (go_at_call 18; refine (C.out).mono ?_; clear h; rintro r w ⟨rfl, h⟩))
          go_roundw
          case rel => exact ⟨h, ⟨_, _, rfl⟩, k + 1, hlt, HV.out⟩
          case measure => rw [HK.out]; have := HG.out; omega
        · cases hx
    · obtain rfl : k = m := by omega
      cases hc : c with
      | none => obtain ⟨t, v, hv⟩ := hi; rw [(H0.out.last.2 hc).1] at hek; rw [hv] at hek; cases hek
      | some d =>
        have he := hek.symm.trans (H0.out.last.1 d hc)
        subst he
        clear hek hK hi hlt
        have HC := Lib.hid hc
        clear hc tO1 tO2 a1 a2 t1 t2 t4 t5 m1 m2
        unfold codeErr
        have e1 := rv_valueOfC d w
        have el := rv_elemVP ⟨a, 0, none⟩ ⟨p, 0, none⟩ w (h.cell ha1 0)
        have st := rv_setC ⟨p, 0, none⟩ ⟨w.heap.size, 0, none⟩ d (.int .i64 old) (w.alloc (.cells #[.int .i64 d] 22)) ((h.alloc _).cell (Mm.upd_same _ _ _) 0) ((h.quietAlloc _).cell hp1 0) ((h.quietAlloc _).free hp1 0)
        have hS := (h.quietAlloc (.cells #[.int .i64 d] 22)).setCell hp1 0 (.int .i64 d)
        unfold rval hnd at e1 el st
        have hcx : (rvC 53 ⟨a, 0, none⟩ 150).extract 0 (0 + 3) = #[.pointer (some ⟨4, 53, none⟩), .pointer (some ⟨a, 0, none⟩), .int .u64 150] := rfl
        go_wp2_with (first
          | ((with_reducible show wpList _ _ _ ({ dst := _, op := Op.load 61 _, type := _, pos := _, after := _, guard := _ } :: _) _ _); refine wpList_agg_has h rfl 61 _ rfl rfl hbx hcx rfl Tryd.underlying61 rfl (by kernel_rfl) ?_; try simp only [Act.put, List.setIfInBounds_toArray, List.set_cons_zero, List.set_cons_succ]))
        go_ret
        refine ⟨fun d' hd' => ?_, fun hn' => by rw [HC.out] at hn'; cases hn'⟩
        obtain rfl : d = d' := Option.some.inj (HC.out.symm.trans hd')
        exact ⟨rfl, hS.le (Mm.upd_le hle p _)⟩

theorem As_nil {σ w : World} {M : Mm} (h : Has σ M w) (t : Value) :
    Calls Tryd.prog 20 #[.nilIface, t] w fun r w' => r = .returned (.bool false) ∧ Has σ M w' := by
  go_enter Tryd.func20, Tryd.ntmps20
  go_wp2
  go_ret
  exact ⟨rfl, h⟩

/-- What the program's variable errors.errorType holds. -/
def ETy (M : Mm) : Prop := ∃ t, M 0 = some (.cells #[rty 29] t)

set_option maxHeartbeats 4000000 in
theorem As_code {σ w : World} {M : Mm} (h : Has σ M w) (hT : ETy M) (E : Nat → Value) (m : Nat) (c : Option Int) (hC : Chain2 M E m c) (p : Nat) (old : Int) (hp : M p = some (.cells #[.int .i64 old] 22)) :
    Calls Tryd.prog 20 #[E 0, .iface 53 (.pointer (some ⟨p, 0, none⟩))] w fun r w' =>
      (∀ d, c = some d → r = .returned (.bool true) ∧ Has σ (M.upd p (.cells #[.int .i64 d] 22)) w') ∧ (c = none → r = .returned (.bool false) ∧ Has σ M w') := by
  obtain ⟨tE, hE⟩ := hT
  have h26 := @run_callFunc_extern Tryd.prog 26 _ (fun args => ReflectliteValue.unpack (args.getD 0 (.tuple #[]))) Tryd.func26 (by kernel_rfl) (by kernel_rfl) (by kernel_rfl) (by kernel_rfl)
  have h27 := @run_callFunc_extern Tryd.prog 27 _ (ReflectliteValue.methodAny (ReflectliteValue.valueError "reflectlite.Value.Type" 0) (fun t _ _ _ => ReflectliteType.toType t)) Tryd.func27 (by kernel_rfl) (by kernel_rfl) (by kernel_rfl) (by kernel_rfl)
  have h28 := @run_callFunc_extern Tryd.prog 28 _ (ReflectliteValue.method (ReflectliteValue.valueError "reflectlite.Value.IsNil" 0) ReflectliteValue.isNil) Tryd.func28 (by kernel_rfl) (by kernel_rfl) (by kernel_rfl) (by kernel_rfl)
  have h62 := @run_callFunc_extern Tryd.prog 62 _ (ReflectliteType.abiMethod fun t => do pure (.int .u8 (← Rtype.kind t))) Tryd.func62 (by kernel_rfl) (by kernel_rfl) (by kernel_rfl) (by kernel_rfl)
  have h73 := @run_callFunc_extern Tryd.prog 73 _ (ReflectliteType.method ReflectliteType.elem) Tryd.func73 (by kernel_rfl) (by kernel_rfl) (by kernel_rfl) (by kernel_rfl)
  have h74 := @run_callFunc_extern Tryd.prog 74 _ (ReflectliteType.relation "Implements" ReflectliteType.implements_) Tryd.func74 (by kernel_rfl) (by kernel_rfl) (by kernel_rfl) (by kernel_rfl)
  have f6 := rv_valueOfP
  have f7 := rv_typeP
  have mK := rv_methodKind
  have mE := rv_methodElem
  have mI := rv_methodImplements
  have k1 := rv_kindP
  have k2 := rv_kindC
  have e2 := rv_elemP
  have i2 := rv_implC
  obtain ⟨t0, v0, hv0⟩ := hC.first
  obtain ⟨b, hb⟩ : ∃ b, b = w.heap.size := ⟨_, rfl⟩
  have h1 := h.alloc (.cells #[.pointer (some ⟨p, 0, none⟩)] 53)
  have h2 := h1.alloc (.cells #[.pointer (some ⟨4, 53, none⟩), .pointer (some ⟨w.heap.size, 0, none⟩), .int .u64 150] 61)
  have hle : M.le ((M.upd w.heap.size (.cells #[.pointer (some ⟨p, 0, none⟩)] 53)).upd (w.alloc (.cells #[.pointer (some ⟨p, 0, none⟩)] 53)).heap.size (.cells #[.pointer (some ⟨4, 53, none⟩), .pointer (some ⟨w.heap.size, 0, none⟩), .int .u64 150] 61)) :=
    Mm.le_trans (Mm.le_upd' h.fresh _) (Mm.le_upd' h1.fresh _)
  have ha := Mm.le_upd' h1.fresh (.cells #[.pointer (some ⟨4, 53, none⟩), .pointer (some ⟨w.heap.size, 0, none⟩), .int .u64 150] 61) _ _ (Mm.upd_same M w.heap.size (.cells #[.pointer (some ⟨p, 0, none⟩)] 53))
  have HA := Lib.hid (as_code h2 E m c ⟨fun i hi => (hC.link i hi).le hle, hC.last⟩ p w.heap.size old _ (hle _ _ hp) ha)
  have n8 := rv_isNilP ⟨w.heap.size, 0, none⟩ ⟨p, 0, none⟩ _ (h2.cell ha 0)
  have hg2 := h2.cell (hle _ _ hE) 0
  rw [hv0] at HA ⊢
  clear hv0 hC h1 h2 ha hp hb b h hE
  simp only [rty, rval, hnd] at f6 f7 mK mE mI k1 k2 e2 i2 HA n8 hg2
  cases c with
  | none =>
    replace HA := Lib.hid (HA.out.mono fun r w' hq => (⟨(hq.2 rfl).1, (hq.2 rfl).2.le hle⟩ : r = .returned (.bool false) ∧ Has σ M w'))
    clear hle
    go_enter Tryd.func20, Tryd.ntmps20
    go_wp2_with (first
      | (go_at_call 29; refine HA.out.mono ?_; rintro r w ⟨rfl, h⟩))
    go_ret
    exact ⟨fun d hd => (by cases hd), fun _ => ⟨rfl, h⟩⟩
  | some d =>
    replace HA := Lib.hid (HA.out.mono fun r w' hq => (⟨(hq.1 d rfl).1, (hq.1 d rfl).2.le (Mm.upd_le hle p _)⟩ : r = .returned (.bool true) ∧ Has σ (M.upd p (.cells #[.int .i64 d] 22)) w'))
    clear hle
    go_enter Tryd.func20, Tryd.ntmps20
    go_wp2_with (first
      | (go_at_call 29; refine HA.out.mono ?_; rintro r w ⟨rfl, h⟩))
    go_ret
    exact ⟨fun d' hd => (by cases hd; exact ⟨rfl, h⟩), fun hn => (by cases hn)⟩
end Go.Proofs.YtillefeoponkjaaDoor
