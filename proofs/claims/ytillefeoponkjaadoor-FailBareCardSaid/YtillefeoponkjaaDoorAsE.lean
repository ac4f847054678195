/- Walks of layer 8 (fail): which Error an error is: errors.As at a target of type **Error. (printed by gen_ase.py) -/
import Derived.Test.YtillefeoponkjaaDoorAsD
namespace Go.Proofs.YtillefeoponkjaaDoor
open Go.RowKit Go.Extern.Stop Go.Stop Go.Extern
set_option linter.unusedVariables false
set_option linter.unusedSimpArgs false
theorem rp_valueOfP (t : Addr) (w : World) : (ReflectliteValue.unpack (.iface 51 (.pointer (some t)))).run Tryd.prog w
    = .ok (rval 51 ⟨w.heap.size, 0, none⟩ 150) (w.alloc (.cells #[.pointer (some t)] 51)) := by kernel_rfl
theorem rp_typeP (a : Addr) (w : World) : (ReflectliteValue.methodAny (ReflectliteValue.valueError "reflectlite.Value.Type" 0) (fun t _ _ _ => ReflectliteType.toType t) #[rval 51 a 150]).run Tryd.prog w = .ok (rty 51) w := by kernel_rfl
theorem rp_kindP (w : World) : ((ReflectliteType.abiMethod fun t => (fun a : Nat => Value.int IntKind.u8 (a : Int)) <$> Rtype.kind t) #[hnd 51]).run Tryd.prog w = .ok (.int .u8 22) w := by kernel_rfl
theorem rp_kindC (w : World) : ((ReflectliteType.abiMethod fun t => (fun a : Nat => Value.int IntKind.u8 (a : Int)) <$> Rtype.kind t) #[hnd 41]).run Tryd.prog w = .ok (.int .u8 22) w := by kernel_rfl
theorem rp_partsP (a : Addr) (w : World) : (ReflectliteValue.parts (rval 51 a 150)).run Tryd.prog w = .ok (some (51, a, 150)) w := by kernel_rfl
theorem rp_isNilP (a p : Addr) (W : World) (ha : W.cell? a = some (.pointer (some p))) :
    (ReflectliteValue.method (ReflectliteValue.valueError "reflectlite.Value.IsNil" 0) ReflectliteValue.isNil #[rval 51 a 150]).run Tryd.prog W = .ok (.bool false) W := by
  rw [rlm]
  simp only [Sem.run_bind, rp_partsP, Result.andThen]
  simp [ReflectliteValue.isNil, loadVar, isAgg, underlying, Tryd.underlying51, ha, Result.andThen]
theorem rp_elemP (w : World) : (ReflectliteType.method ReflectliteType.elem #[.agg #[hnd 51]]).run Tryd.prog w = .ok (rty 41) w := by kernel_rfl
theorem rp_implC (w : World) : (ReflectliteType.relation "Implements" ReflectliteType.implements_ #[.agg #[hnd 41], rty 29]).run Tryd.prog w = .ok (.bool true) w := by kernel_rfl
theorem rp_asgCC (w : World) : (ReflectliteType.relation "AssignableTo" ReflectliteType.assignableTo #[.agg #[hnd 41], rty 41]).run Tryd.prog w = .ok (.bool true) w := by kernel_rfl
theorem rp_asgNC (w : World) : (ReflectliteType.relation "AssignableTo" ReflectliteType.assignableTo #[.agg #[hnd 57], rty 41]).run Tryd.prog w = .ok (.bool false) w := by kernel_rfl
theorem rp_asgVC (w : World) : (ReflectliteType.relation "AssignableTo" ReflectliteType.assignableTo #[.agg #[hnd 22], rty 41]).run Tryd.prog w = .ok (.bool false) w := by kernel_rfl
theorem rp_valueOfC (n : Addr) (w : World) : (ReflectliteValue.unpack (.iface 41 (.pointer (some n)))).run Tryd.prog w
    = .ok (rval 41 ⟨w.heap.size, 0, none⟩ 150) (w.alloc (.cells #[.pointer (some n)] 41)) := by kernel_rfl
theorem rp_elemOfP (w : World) : (Rtype.elem? 51).run Tryd.prog w = .ok (some 41) w := by kernel_rfl
theorem rp_mkC (p : Addr) (w : World) : (ReflectliteValue.mk 41 p ReflectliteValue.flagAddr).run Tryd.prog w = .ok (rval 41 p 406) w := by kernel_rfl
theorem rp_elemVP (a p : Addr) (W : World) (ha : W.cell? a = some (.pointer (some p))) :
    (ReflectliteValue.method (ReflectliteValue.valueError "reflectlite.Value.Elem" 0) ReflectliteValue.elem #[rval 51 a 150]).run Tryd.prog W = .ok (rval 41 p 406) W := by
  rw [rlm]
  simp only [Sem.run_bind, rp_partsP, Result.andThen]
  simp [ReflectliteValue.elem, loadVar, isAgg, underlying, Tryd.underlying51, ha, Result.andThen, rp_elemOfP, rp_mkC]
theorem rp_partsCa (a : Addr) (w : World) : (ReflectliteValue.parts (rval 41 a 406)).run Tryd.prog w = .ok (some (41, a, 406)) w := by kernel_rfl
theorem rp_partsC (a : Addr) (w : World) : (ReflectliteValue.parts (rval 41 a 150)).run Tryd.prog w = .ok (some (41, a, 150)) w := by kernel_rfl
theorem rp_directC (w : World) : (Rtype.directlyAssignable 41 41).run Tryd.prog w = .ok true w := by kernel_rfl
theorem rp_setC (ta b : Addr) (n : Addr) (old : Value) (W : World) (hb : W.cell? b = some (.pointer (some n))) (ht : W.cell? ta = some old) (hf : W.frozen? ta = false) :
    (ReflectliteValue.set #[rval 41 ta 406, rval 41 b 150]).run Tryd.prog W = .ok (.tuple #[]) (W.setCell ta (.pointer (some n))) := by
  rw [rls]
  simp only [Sem.run_bind, rp_partsCa, rp_partsC, Result.andThen]
  simp [ReflectliteValue.flagAddr, loadVar, isAgg, underlying, Tryd.underlying41, hb, Result.andThen, rp_directC, storeVar, Value.cells, storeCells, Addr.add]
  rw [run_store Tryd.prog W ta _ _ (by rfl)]
  simp [ht, hf]

/-- Notes, so many, around an Error in block b, or around a code. -/
structure Chain3 (E : Nat → Value) (m : Nat) (x : Option Nat) : Prop where
  link : ∀ i, i < m → ∃ a, E i = noteV a (E (i + 1))
  last : (∀ b, x = some b → E m = perrV b) ∧ (x = none → ∃ c, E m = codeErr c)
theorem Chain3.some {E : Nat → Value} {m : Nat} {x : Option Nat} (h : Chain3 E m x) (i : Nat) (hi : i ≤ m) : ∃ t v, E i = .iface t v := by
  rcases Nat.lt_or_eq_of_le hi with hi | rfl
  · obtain ⟨a, ha⟩ := h.link i hi; exact ⟨_, _, ha⟩
  · cases x with
    | none => obtain ⟨c, hc⟩ := h.last.2 rfl; exact ⟨_, _, hc⟩
    | some b => exact ⟨_, _, h.last.1 b rfl⟩

set_option maxHeartbeats 4000000 in
theorem as_ptr {σ w : World} {M : Mm} (h : Has σ M w) (E : Nat → Value) (m : Nat) (x : Option Nat) (hC : Chain3 E m x) (p a : Nat) (old : Value) (tc : TypeId) (hp : M p = some (.cells #[old] 41)) (ha : M a = some (.cells #[.pointer (some ⟨p, 0, none⟩)] tc)) :
    Calls Tryd.prog 29 #[E 0, .iface 51 (.pointer (some ⟨p, 0, none⟩)), rval 51 ⟨a, 0, none⟩ 150, rty 41] w fun r w' =>
      (∀ b, x = some b → r = .returned (.bool true) ∧ Has σ (M.upd p (.cells #[.pointer (some ⟨b, 0, none⟩)] 41)) w') ∧ (x = none → r = .returned (.bool false) ∧ Has σ M w') := by
  have h31 := @run_callFunc_extern Tryd.prog 31 _ ReflectliteType.typeOf Tryd.func31 (by kernel_rfl) (by kernel_rfl) (by kernel_rfl) (by kernel_rfl)
  have h71 := @run_callFunc_extern Tryd.prog 71 _ (ReflectliteType.relation "AssignableTo" ReflectliteType.assignableTo) Tryd.func71 (by kernel_rfl) (by kernel_rfl) (by kernel_rfl) (by kernel_rfl)
  have h34 := @run_callFunc_extern Tryd.prog 34 _ (ReflectliteValue.method (ReflectliteValue.valueError "reflectlite.Value.Elem" 0) ReflectliteValue.elem) Tryd.func34 (by kernel_rfl) (by kernel_rfl) (by kernel_rfl) (by kernel_rfl)
  have h26 := @run_callFunc_extern Tryd.prog 26 _ (fun args => ReflectliteValue.unpack (args.getD 0 (.tuple #[]))) Tryd.func26 (by kernel_rfl) (by kernel_rfl) (by kernel_rfl) (by kernel_rfl)
  have h35 := @run_callFunc_extern Tryd.prog 35 _ ReflectliteValue.set Tryd.func35 (by kernel_rfl) (by kernel_rfl) (by kernel_rfl) (by kernel_rfl)
  have tO1 := rv_typeOfN
  have tO2 := rv_typeOfE
  have tO3 := rv_typeOfC
  have mA := rv_methodAssignableTo
  have a1 := rp_asgNC
  have a2 := rp_asgCC
  have a3 := rp_asgVC
  have t1 := ta_AsN
  have t3 := ta_AsC
  have t6 := ta_UnC
  have t7 := ta_UsC
  have t2 := ta_AsP
  have t4 := ta_UnN
  have t5 := ta_UnP
  have m1 := m_note_unwrap
  have m2 := m_ptr_unwrap
  unfold rty at tO1 tO2 tO3 a1 a2 a3
  unfold hnd at tO1 tO2 tO3 a1 a2 a3
  unfold rty rval hnd
  have H0 := Lib.hid hC
  clear hC
  generalize hE0 : E 0 = e0
  go_enter Tryd.func29, Tryd.ntmps29
  go_upto_region 1 with (first
    | ((with_reducible show wpList _ _ _ ({ dst := _, op := Op.box 61 _, type := _, pos := _, after := _, guard := _ } :: _) _ _); refine wpList_box_has h rfl 61 _ rfl ?_; clear h; intro bx w h hn; try simp only [Act.put, List.setIfInBounds_toArray, List.set_cons_zero, List.set_cons_succ]))
  go_wp2
  generalize hM1 : M.upd bx _ = M1 at h
  have hle : M.le M1 := by rw [← hM1]; exact Mm.le_upd' hn _
  have hbx : M1 bx = some (.cells (rvC 51 ⟨a, 0, none⟩ 150) 61) := by rw [← hM1]; exact Mm.upd_same _ _ _
  clear hM1
  have hp1 := hle _ _ hp
  have ha1 := hle _ _ ha
  have HF := H0.out.some 0 (Nat.zero_le _)
  have hpa : p ≠ bx := Mm.ne_of hn hp
  go_loopw [0] (fun e wr => Has σ M1 wr ∧ ∃ k : Nat, k ≤ m ∧ E k = e) (fun e _ => m - lastAt E e m)
  case atStart =>
    exact ⟨h, 0, Nat.zero_le _, hE0⟩
  case round =>
    clear h w hE0
    obtain ⟨w, rfl⟩ : ∃ x : World, x = wr := ⟨_, rfl⟩
    obtain ⟨h, k0, hk0, hek0⟩ := hrel
    obtain ⟨k, hk, hek, hK⟩ := lastAt_at hk0 hek0
    clear hek0 hk0 k0 HF
    by_cases hlt : k < m
    · clear tO2 tO3 a2 a3 h34 h26 h35
      obtain ⟨a', hL⟩ := H0.out.link k hlt
      obtain ⟨t', v', hv'⟩ := H0.out.some (k + 1) hlt
      rw [hek, hv'] at hL
      have hge := lastAt_ge E _ m (k + 1) hlt hv'
      have HV := Lib.hid hv'
      have HG := Lib.hid hge
      have HK := Lib.hid hK
      clear hv' hge hK
      subst hL
      clear hek
      unfold noteV at HK ⊢
      have C := Lib.hid (note_unwrap h a' (.iface t' v'))
      go_wp2_with (first
        | (go_at_call 66; refine (C.out).mono ?_; clear h; rintro r w ⟨rfl, h⟩))
      go_roundw
      case rel => exact ⟨h, k + 1, hlt, HV.out⟩
      case measure => rw [HK.out]; have := HG.out; omega
    · obtain rfl : k = m := by omega
      cases hc : x with
      | none =>
        obtain ⟨c, hcc⟩ := H0.out.last.2 hc
        have he := hek.symm.trans hcc
        subst he
        clear hek hK hlt hcc
        have HC := Lib.hid hc
        clear hc tO1 tO2 a1 a2 t1 t2 t4 t5 m1 m2 h34 h26 h35
        unfold codeErr
        go_wp2
        go_ret
        exact ⟨fun d hd => (by rw [HC.out] at hd; cases hd), fun _ => ⟨rfl, h.le hle⟩⟩
      | some d =>
        have he := hek.symm.trans (H0.out.last.1 d hc)
        subst he
        clear hek hK hlt
        have HC := Lib.hid hc
        clear hc tO1 tO3 a1 a3 t1 t2 t3 t4 t5 t6 t7 m1 m2
        unfold perrV
        have e1 := rp_valueOfC ⟨d, 0, none⟩ w
        have el := rp_elemVP ⟨a, 0, none⟩ ⟨p, 0, none⟩ w (h.cell ha1 0)
        have st := rp_setC ⟨p, 0, none⟩ ⟨w.heap.size, 0, none⟩ ⟨d, 0, none⟩ old (w.alloc (.cells #[.pointer (some ⟨d, 0, none⟩)] 41)) ((h.alloc _).cell (Mm.upd_same _ _ _) 0) ((h.quietAlloc _).cell hp1 0) ((h.quietAlloc _).free hp1 0)
        have hS := (h.quietAlloc (.cells #[.pointer (some ⟨d, 0, none⟩)] 41)).setCell hp1 0 (.pointer (some ⟨d, 0, none⟩))
        unfold rval hnd at e1 el st
        have hcx : (rvC 51 ⟨a, 0, none⟩ 150).extract 0 (0 + 3) = #[.pointer (some ⟨4, 51, none⟩), .pointer (some ⟨a, 0, none⟩), .int .u64 150] := rfl
        go_wp2_with (first
          | ((with_reducible show wpList _ _ _ ({ dst := _, op := Op.load 61 _, type := _, pos := _, after := _, guard := _ } :: _) _ _); refine wpList_agg_has h rfl 61 _ rfl rfl hbx hcx rfl Tryd.underlying61 rfl (by kernel_rfl) ?_; try simp only [Act.put, List.setIfInBounds_toArray, List.set_cons_zero, List.set_cons_succ]))
        go_ret
        refine ⟨fun d' hd' => ?_, fun hn' => by rw [HC.out] at hn'; cases hn'⟩
        obtain rfl : d = d' := Option.some.inj (HC.out.symm.trans hd')
        exact ⟨rfl, hS.le (Mm.upd_le hle p _)⟩

set_option maxHeartbeats 4000000 in
theorem As_ptr {σ w : World} {M : Mm} (h : Has σ M w) (hT : ETy M) (E : Nat → Value) (m : Nat) (x : Option Nat) (hC : Chain3 E m x) (p : Nat) (old : Value) (hp : M p = some (.cells #[old] 41)) :
    Calls Tryd.prog 20 #[E 0, .iface 51 (.pointer (some ⟨p, 0, none⟩))] w fun r w' =>
      (∀ b, x = some b → r = .returned (.bool true) ∧ Has σ (M.upd p (.cells #[.pointer (some ⟨b, 0, none⟩)] 41)) w') ∧ (x = none → r = .returned (.bool false) ∧ Has σ M w') := by
  obtain ⟨tE, hE⟩ := hT
  have h26 := @run_callFunc_extern Tryd.prog 26 _ (fun args => ReflectliteValue.unpack (args.getD 0 (.tuple #[]))) Tryd.func26 (by kernel_rfl) (by kernel_rfl) (by kernel_rfl) (by kernel_rfl)
  have h27 := @run_callFunc_extern Tryd.prog 27 _ (ReflectliteValue.methodAny (ReflectliteValue.valueError "reflectlite.Value.Type" 0) (fun t _ _ _ => ReflectliteType.toType t)) Tryd.func27 (by kernel_rfl) (by kernel_rfl) (by kernel_rfl) (by kernel_rfl)
  have h28 := @run_callFunc_extern Tryd.prog 28 _ (ReflectliteValue.method (ReflectliteValue.valueError "reflectlite.Value.IsNil" 0) ReflectliteValue.isNil) Tryd.func28 (by kernel_rfl) (by kernel_rfl) (by kernel_rfl) (by kernel_rfl)
  have h62 := @run_callFunc_extern Tryd.prog 62 _ (ReflectliteType.abiMethod fun t => do pure (.int .u8 (← Rtype.kind t))) Tryd.func62 (by kernel_rfl) (by kernel_rfl) (by kernel_rfl) (by kernel_rfl)
  have h73 := @run_callFunc_extern Tryd.prog 73 _ (ReflectliteType.method ReflectliteType.elem) Tryd.func73 (by kernel_rfl) (by kernel_rfl) (by kernel_rfl) (by kernel_rfl)
  have h74 := @run_callFunc_extern Tryd.prog 74 _ (ReflectliteType.relation "Implements" ReflectliteType.implements_) Tryd.func74 (by kernel_rfl) (by kernel_rfl) (by kernel_rfl) (by kernel_rfl)
  have f6 := rp_valueOfP
  have f7 := rp_typeP
  have mK := rv_methodKind
  have mE := rv_methodElem
  have mI := rv_methodImplements
  have k1 := rp_kindP
  have k2 := rp_kindC
  have e2 := rp_elemP
  have i2 := rp_implC
  obtain ⟨t0, v0, hv0⟩ := hC.some 0 (Nat.zero_le _)
  obtain ⟨b, hb⟩ : ∃ b, b = w.heap.size := ⟨_, rfl⟩
  have h1 := h.alloc (.cells #[.pointer (some ⟨p, 0, none⟩)] 51)
  have h2 := h1.alloc (.cells #[.pointer (some ⟨4, 51, none⟩), .pointer (some ⟨w.heap.size, 0, none⟩), .int .u64 150] 61)
  have hle : M.le ((M.upd w.heap.size (.cells #[.pointer (some ⟨p, 0, none⟩)] 51)).upd (w.alloc (.cells #[.pointer (some ⟨p, 0, none⟩)] 51)).heap.size (.cells #[.pointer (some ⟨4, 51, none⟩), .pointer (some ⟨w.heap.size, 0, none⟩), .int .u64 150] 61)) :=
    Mm.le_trans (Mm.le_upd' h.fresh _) (Mm.le_upd' h1.fresh _)
  have ha := Mm.le_upd' h1.fresh (.cells #[.pointer (some ⟨4, 51, none⟩), .pointer (some ⟨w.heap.size, 0, none⟩), .int .u64 150] 61) _ _ (Mm.upd_same M w.heap.size (.cells #[.pointer (some ⟨p, 0, none⟩)] 51))
  have HA := Lib.hid (as_ptr h2 E m x hC p w.heap.size old _ (hle _ _ hp) ha)
  have n8 := rp_isNilP ⟨w.heap.size, 0, none⟩ ⟨p, 0, none⟩ _ (h2.cell ha 0)
  have hg2 := h2.cell (hle _ _ hE) 0
  rw [hv0] at HA ⊢
  clear hv0 hC h1 h2 ha hp hb b h hE
  simp only [rty, rval, hnd] at f6 f7 mK mE mI k1 k2 e2 i2 HA n8 hg2
  cases x with
  | none =>
    replace HA := Lib.hid (HA.out.mono fun r w' hq => (⟨(hq.2 rfl).1, (hq.2 rfl).2.le hle⟩ : r = .returned (.bool false) ∧ Has σ M w'))
    clear hle
    go_enter Tryd.func20, Tryd.ntmps20
    go_wp2_with (first
      | (go_at_call 29; refine HA.out.mono ?_; rintro r w ⟨rfl, h⟩))
    go_ret
    exact ⟨fun d hd => (by cases hd), fun _ => ⟨rfl, h⟩⟩
  | some d =>
    replace HA := Lib.hid (HA.out.mono fun r w' hq => (⟨(hq.1 d rfl).1, (hq.1 d rfl).2.le (Mm.upd_le hle p _)⟩ : r = .returned (.bool true) ∧ Has σ (M.upd p (.cells #[.pointer (some ⟨d, 0, none⟩)] 41)) w'))
    clear hle
    go_enter Tryd.func20, Tryd.ntmps20
    go_wp2_with (first
      | (go_at_call 29; refine HA.out.mono ?_; rintro r w ⟨rfl, h⟩))
    go_ret
    exact ⟨fun d' hd => (by cases hd; exact ⟨rfl, h⟩), fun hn => (by cases hn)⟩
end Go.Proofs.YtillefeoponkjaaDoor
