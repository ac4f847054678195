/- Walks of layer 8 (fail): whether an error is of a code. -/
import Derived.Test.YtillefeoponkjaaDoorAsB
namespace Go.Proofs.YtillefeoponkjaaDoor
open Go.RowKit Go.Extern.Stop Go.Stop Go.Extern
set_option linter.unusedVariables false
set_option linter.unusedSimpArgs false
theorem eq_NC (v u : Value) (w : World) : (binOp .eql 29 (.iface 57 v) (.iface 22 u)).run Tryd.prog w = .ok (.bool false) w := run_eql_iface_types 57 22 v u Tryd.underlying29 (by decide) w
theorem eq_PC (v u : Value) (w : World) : (binOp .eql 29 (.iface 41 v) (.iface 22 u)).run Tryd.prog w = .ok (.bool false) w := run_eql_iface_types 41 22 v u Tryd.underlying29 (by decide) w
theorem eq_CC (c d : Int) (w : World) : (binOp .eql 29 (.iface 22 (.int .i64 c)) (.iface 22 (.int .i64 d))).run Tryd.prog w = .ok (.bool (c == d)) w := by kernel_rfl
theorem rv_methodComparable (h : Value) (w : World) : (Go.method 237 77 (.agg #[h]) "Comparable").run Tryd.prog w = .ok (72, .agg #[h]) w := by kernel_rfl
theorem rv_comparableC (w : World) : (ReflectliteType.method (fun t => do Rtype.noPackHeld "Comparable" t; (fun a : TypeInfo => Value.bool a.comparable) <$> typeInfo t) #[.agg #[hnd 22]]).run Tryd.prog w = .ok (.bool true) w := by kernel_rfl

/-- An error that is not nil, behind so many links a code. -/
structure Chain (M : Mm) (E : Nat → Value) (m : Nat) (c : Int) : Prop where
  le : m ≤ 1000
  link : ∀ i, i < m → Link M (E i) (E (i + 1))
  last : E m = codeErr c
theorem Chain.some {M : Mm} {E : Nat → Value} {m : Nat} {c : Int} (h : Chain M E m c) (i : Nat) (hi : i ≤ m) : ∃ t v, E i = .iface t v := by
  rcases Nat.lt_or_eq_of_le hi with hi | rfl
  · exact (h.link i hi).some
  · exact ⟨_, _, h.last⟩

section
open Classical
/-- The greatest place, up to k, at which e stands. -/
noncomputable def lastAt (E : Nat → Value) (e : Value) : Nat → Nat
  | 0 => 0
  | k + 1 => if E (k + 1) = e then k + 1 else lastAt E e k
theorem lastAt_le (E : Nat → Value) (e : Value) (m : Nat) : lastAt E e m ≤ m := by
  induction m with
  | zero => exact Nat.le_refl _
  | succ m ih => unfold lastAt; split <;> omega
theorem lastAt_ge (E : Nat → Value) (e : Value) (m k : Nat) (hk : k ≤ m) (h : E k = e) : k ≤ lastAt E e m := by
  induction m with
  | zero => omega
  | succ m ih =>
    unfold lastAt
    split
    · exact hk
    · rename_i hne
      exact ih (by rcases Nat.lt_or_eq_of_le hk with h1 | rfl; exact Nat.le_of_lt_succ h1; exact absurd h hne)
theorem lastAt_eq (E : Nat → Value) (e : Value) (m k : Nat) (hk : k ≤ m) (h : E k = e) : E (lastAt E e m) = e := by
  induction m with
  | zero => obtain rfl : k = 0 := by omega
            exact h
  | succ m ih =>
    unfold lastAt
    split
    · rename_i h1; exact h1
    · rename_i hne
      exact ih (by rcases Nat.lt_or_eq_of_le hk with h1 | rfl; exact Nat.le_of_lt_succ h1; exact absurd h hne)
theorem lastAt_at {E : Nat → Value} {e : Value} {m k0 : Nat} (hk : k0 ≤ m) (h : E k0 = e) : ∃ k, k ≤ m ∧ E k = e ∧ lastAt E e m = k := ⟨_, lastAt_le E e m, lastAt_eq E e m k0 hk h, rfl⟩
end
set_option maxHeartbeats 2000000 in
theorem is_eq {σ w : World} {M : Mm} (h : Has σ M w) (E : Nat → Value) (m : Nat) (c d : Int) (hC : Chain M E m c) :
    Calls Tryd.prog 32 #[E 0, codeErr d, .bool true] w fun r w' => r = .returned (.bool (c == d)) ∧ Has σ M w' := by
  have H0 := Lib.hid hC
  clear hC
  have t1 := ta_IsN
  have t2 := ta_IsP
  have t3 := ta_IsC
  have t4 := ta_UnN
  have t5 := ta_UnP
  have t6 := ta_UnC
  have t7 := ta_UsC
  have m1 := m_note_unwrap
  have m2 := m_ptr_unwrap
  have q1 := eq_NC
  have q2 := eq_PC
  have q3 := eq_CC
  generalize hE0 : E 0 = e0
  unfold codeErr
  go_enter Tryd.func32, Tryd.ntmps32
  go_wp2
  go_loopw [0] (fun e wr => Has σ M wr ∧ ∃ k : Nat, k ≤ m ∧ E k = e) (fun e _ => m - lastAt E e m)
  case atStart => exact ⟨h, 0, Nat.zero_le _, hE0⟩
  case round =>
    clear h w hE0
    obtain ⟨w, rfl⟩ : ∃ x : World, x = wr := ⟨_, rfl⟩
    obtain ⟨h, k0, hk0, hek0⟩ := hrel
    obtain ⟨k, hk, hek, hK⟩ := lastAt_at hk0 hek0
    clear hek0 hk0 k0
    by_cases hlt : k < m
    · obtain ⟨t', v', hv'⟩ := H0.out.some (k + 1) hlt
      have hL := H0.out.link k hlt
      rw [hek, hv'] at hL
      have hge := lastAt_ge E _ m (k + 1) hlt hv'
      rcases hL with ⟨a, rfl⟩ | ⟨b, t, l, wh, rfl, hb⟩ | ⟨rfl, hx⟩
      · have HR := Lib.hid hek
        have HV := Lib.hid hv'
        have HG := Lib.hid hge
        have HK := Lib.hid hK
        clear hek hv' hge hK
        unfold noteV at HK ⊢
        have C := Lib.hid (note_unwrap h a (.iface t' v'))
        go_wp2_with (first
          | (go_at_call 66; refine (C.out).mono ?_; clear h; rintro r w ⟨rfl, h⟩))
        go_roundw
        case rel => exact ⟨h, k + 1, hlt, HV.out⟩
        case measure => rw [HK.out]; have := HG.out; omega
      · have HR := Lib.hid hek
        have HV := Lib.hid hv'
        have HG := Lib.hid hge
        have HK := Lib.hid hK
        clear hek hv' hge hK
        unfold perrV at HK ⊢
        have C := Lib.hid (ptr_unwrap h hb)
        go_wp2_with (first
          | (go_at_call 18; refine (C.out).mono ?_; clear h; rintro r w ⟨rfl, h⟩))
        go_roundw
        case rel => exact ⟨h, k + 1, hlt, HV.out⟩
        case measure => rw [HK.out]; have := HG.out; omega
      · cases hx
    · obtain rfl : k = m := by omega
      have he := hek.symm.trans H0.out.last
      subst he
      clear hek hK
      unfold codeErr
      have q4 := q3 c d
      clear q3
      cases hcd : (c == d)
      · rw [hcd] at q4
        go_wp2
        go_ret
        exact ⟨by rw [hcd]; rfl, h⟩
      · rw [hcd] at q4
        go_wp2
        go_ret
        exact ⟨by rw [hcd]; rfl, h⟩

set_option maxHeartbeats 2000000 in
theorem errIs_eq {σ w : World} {M : Mm} (h : Has σ M w) (E : Nat → Value) (m : Nat) (c d : Int) (hC : Chain M E m c) :
    Calls Tryd.prog 23 #[E 0, codeErr d] w fun r w' => r = .returned (.bool (c == d)) ∧ Has σ M w' := by
  have h31 := @run_callFunc_extern Tryd.prog 31 _ ReflectliteType.typeOf Tryd.func31 (by kernel_rfl) (by kernel_rfl) (by kernel_rfl) (by kernel_rfl)
  have h72 := @run_callFunc_extern Tryd.prog 72 _ (ReflectliteType.method (fun t => do Rtype.noPackHeld "Comparable" t; pure (.bool (← typeInfo t).comparable))) Tryd.func72 (by kernel_rfl) (by kernel_rfl) (by kernel_rfl) (by kernel_rfl)
  have mC : ∀ w, (Go.method 237 77 (.agg #[hnd 22]) "Comparable").run Tryd.prog w = .ok (72, .agg #[hnd 22]) w := rv_methodComparable _
  have tO : ∀ w, (ReflectliteType.typeOf #[.iface 22 (.int .i64 d)]).run Tryd.prog w = .ok (rty 22) w := rv_typeOfC _
  have rC := rv_comparableC
  obtain ⟨t, v, hv⟩ := hC.some 0 (Nat.zero_le _)
  have C := Lib.hid (is_eq h E m c d hC)
  rw [hv] at C ⊢
  clear hv hC
  unfold codeErr at C ⊢
  unfold rty at tO
  unfold hnd at tO mC rC
  go_enter Tryd.func23, Tryd.ntmps23
  go_wp2_with (first
    | (go_at_call 32; refine (C.out).mono ?_; clear h; rintro r w ⟨rfl, h⟩))
  go_ret
  exact ⟨rfl, h⟩
set_option maxHeartbeats 1000000 in
theorem failIs_eq {σ w : World} {M : Mm} (h : Has σ M w) (E : Nat → Value) (m : Nat) (c d : Int) (hC : Chain M E m c) :
    Calls Tryd.prog 13 #[E 0, .int .i64 d] w fun r w' => r = .returned (.bool (c == d)) ∧ Has σ M w' := by
  obtain ⟨t, v, hv⟩ := hC.some 0 (Nat.zero_le _)
  have C := Lib.hid (errIs_eq h E m c d hC)
  rw [hv] at C ⊢
  clear hv hC
  unfold codeErr at C
  go_enter Tryd.func13, Tryd.ntmps13
  go_wp2_with (first
    | (go_at_call 23; refine (C.out).mono ?_; clear h; rintro r w ⟨rfl, h⟩))
  go_ret
  exact ⟨rfl, h⟩
set_option maxHeartbeats 1000000 in
theorem failIs_nil {σ w : World} {M : Mm} (h : Has σ M w) (d : Int) :
    Calls Tryd.prog 13 #[.nilIface, .int .i64 d] w fun r w' => r = .returned (.bool (d == 0)) ∧ Has σ M w' := by
  go_enter Tryd.func13, Tryd.ntmps13
  go_wp2
  go_ret
  exact ⟨rfl, h⟩
end Go.Proofs.YtillefeoponkjaaDoor
