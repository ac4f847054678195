/- Walks of layer 8 (fail): what an error wraps. -/
import Derived.Test.YtillefeoponkjaaDoorAsA
namespace Go.Proofs.YtillefeoponkjaaDoor
open Go.RowKit Go.Extern.Stop Go.Stop Go.Extern
set_option linter.unusedVariables false
set_option linter.unusedSimpArgs false
/-- A note of an error; an Error that is in block b; no Error. -/
def noteV (a : ByteArray) (e : Value) : Value := .iface 57 (.agg #[.string a, e])
def perrV (b : Nat) : Value := .iface 41 (.pointer (some ⟨b, 0, none⟩))
def pnilV : Value := .iface 41 (.pointer none)
/-- e wraps e'. -/
def Link (M : Mm) (e e' : Value) : Prop :=
  (∃ a, e = noteV a e') ∨ (∃ b t l wh, e = perrV b ∧ M b = some (.cells (errCells t l wh e') 45)) ∨ (e = pnilV ∧ e' = .nilIface)

theorem Link.le {M M' : Mm} {e e' : Value} (h : Link M e e') (hm : M.le M') : Link M' e e' := by
  rcases h with h | ⟨b, t, l, wh, h, hb⟩ | h
  · exact .inl h
  · exact .inr (.inl ⟨b, t, l, wh, h, hm _ _ hb⟩)
  · exact .inr (.inr h)

set_option maxHeartbeats 400000 in
theorem note_unwrap {σ w : World} {M : Mm} (h : Has σ M w) (a : ByteArray) (e : Value) :
    Calls Tryd.prog 66 #[.agg #[.string a, e]] w fun r w' => r = .returned e ∧ Has σ M w' := by
  have h0 := Lib.hid h
  go_enter Tryd.func66, Tryd.ntmps66
  go_wp2_with (first
    | ((with_reducible show wpList _ _ _ ({ dst := _, op := Op.box 57 _, type := _, pos := _, after := _, guard := _ } :: _) _ _); refine wpList_box_has h rfl 57 _ rfl ?_; clear h; intro b w h hn; try simp only [Act.put, List.setIfInBounds_toArray, List.set_cons_zero, List.set_cons_succ])
    | (with_reducible show wpList _ _ _ ({ dst := _, op := Op.load 29 _, type := _, pos := _, after := _, guard := _ } :: _) _ _; refine wpList_load1_has h rfl 29 _ rfl rfl (Mm.upd_same _ _ _) (rfl : _ = some e) Tryd.underlying29 rfl ?_))
  go_ret
  exact ⟨rfl, h.less fun b' o' hb => by rw [Mm.upd_ne (Mm.ne_of hn hb)]; exact hb⟩

set_option maxHeartbeats 400000 in
theorem ptr_unwrap {σ w : World} {M : Mm} (h : Has σ M w) {b : Nat} {t l : Int} {wh : ByteArray} {e : Value} (hb : M b = some (.cells (errCells t l wh e) 45)) :
    Calls Tryd.prog 18 #[.pointer (some ⟨b, 0, none⟩)] w fun r w' => r = .returned e ∧ Has σ M w' := by
  go_enter Tryd.func18, Tryd.ntmps18
  go_wp2_with (first
    | (with_reducible show wpList _ _ _ ({ dst := _, op := Op.load 29 _, type := _, pos := _, after := _, guard := _ } :: _) _ _; refine wpList_load1_has h rfl 29 _ rfl rfl hb (rfl : _ = some e) Tryd.underlying29 rfl ?_))
  go_ret
  exact ⟨rfl, h⟩
set_option maxHeartbeats 400000 in
theorem nil_unwrap {σ w : World} {M : Mm} (h : Has σ M w) :
    Calls Tryd.prog 18 #[.pointer none] w fun r w' => r = .returned .nilIface ∧ Has σ M w' := by
  go_enter Tryd.func18, Tryd.ntmps18
  go_wp2
  go_ret
  exact ⟨rfl, h⟩

theorem ta_AsN (v : Value) (xT : TypeId) (w : World) : (Instr.typeAssert (.iface 57 v) xT 81 true).run Tryd.prog w = .ok (.tuple #[.nilIface, .bool false]) w := run_typeAssert_lacksB Tryd.underlying81 (by kernel_rfl) (by kernel_rfl) v xT w
theorem ta_UnN (v : Value) (xT : TypeId) (w : World) : (Instr.typeAssert (.iface 57 v) xT 74 true).run Tryd.prog w = .ok (.tuple #[.iface 57 v, .bool true]) w := run_typeAssert_hasB Tryd.underlying74 (by kernel_rfl) v xT w
theorem ta_IsN (v : Value) (xT : TypeId) (w : World) : (Instr.typeAssert (.iface 57 v) xT 87 true).run Tryd.prog w = .ok (.tuple #[.nilIface, .bool false]) w := run_typeAssert_lacksB Tryd.underlying87 (by kernel_rfl) (by kernel_rfl) v xT w
theorem ta_AsP (v : Value) (xT : TypeId) (w : World) : (Instr.typeAssert (.iface 41 v) xT 81 true).run Tryd.prog w = .ok (.tuple #[.nilIface, .bool false]) w := run_typeAssert_lacksB Tryd.underlying81 (by kernel_rfl) (by kernel_rfl) v xT w
theorem ta_UnP (v : Value) (xT : TypeId) (w : World) : (Instr.typeAssert (.iface 41 v) xT 74 true).run Tryd.prog w = .ok (.tuple #[.iface 41 v, .bool true]) w := run_typeAssert_hasB Tryd.underlying74 (by kernel_rfl) v xT w
theorem ta_IsP (v : Value) (xT : TypeId) (w : World) : (Instr.typeAssert (.iface 41 v) xT 87 true).run Tryd.prog w = .ok (.tuple #[.nilIface, .bool false]) w := run_typeAssert_lacksB Tryd.underlying87 (by kernel_rfl) (by kernel_rfl) v xT w
theorem ta_AsC (v : Value) (xT : TypeId) (w : World) : (Instr.typeAssert (.iface 22 v) xT 81 true).run Tryd.prog w = .ok (.tuple #[.nilIface, .bool false]) w := run_typeAssert_lacksB Tryd.underlying81 (by kernel_rfl) (by kernel_rfl) v xT w
theorem ta_UnC (v : Value) (xT : TypeId) (w : World) : (Instr.typeAssert (.iface 22 v) xT 74 true).run Tryd.prog w = .ok (.tuple #[.nilIface, .bool false]) w := run_typeAssert_lacksB Tryd.underlying74 (by kernel_rfl) (by kernel_rfl) v xT w
theorem ta_UsC (v : Value) (xT : TypeId) (w : World) : (Instr.typeAssert (.iface 22 v) xT 84 true).run Tryd.prog w = .ok (.tuple #[.nilIface, .bool false]) w := run_typeAssert_lacksB Tryd.underlying84 (by kernel_rfl) (by kernel_rfl) v xT w
theorem ta_IsC (v : Value) (xT : TypeId) (w : World) : (Instr.typeAssert (.iface 22 v) xT 87 true).run Tryd.prog w = .ok (.tuple #[.nilIface, .bool false]) w := run_typeAssert_lacksB Tryd.underlying87 (by kernel_rfl) (by kernel_rfl) v xT w
theorem m_note_unwrap (v : Value) (w : World) : (method 237 57 v "Unwrap").run Tryd.prog w = .ok (66, v) w := by kernel_rfl
theorem m_ptr_unwrap (v : Value) (w : World) : (method 237 41 v "Unwrap").run Tryd.prog w = .ok (18, v) w := by kernel_rfl

set_option maxHeartbeats 1000000 in
theorem unwrap_link {σ w : World} {M : Mm} (h : Has σ M w) {e e' : Value} (hL : Link M e e') :
    Calls Tryd.prog 24 #[e] w fun r w' => r = .returned e' ∧ Has σ M w' := by
  rcases hL with ⟨a, rfl⟩ | ⟨b, t, l, wh, rfl, hb⟩ | ⟨rfl, rfl⟩
  · unfold noteV
    have hm := m_note_unwrap
    have ht := ta_UnN
    go_enter Tryd.func24, Tryd.ntmps24
    go_wp2_with (first
      | (go_at_call 66; refine (note_unwrap h a e').mono ?_; clear h; rintro r w ⟨rfl, h⟩))
    go_ret
    exact ⟨rfl, h⟩
  · unfold perrV
    have hm := m_ptr_unwrap
    have ht := ta_UnP
    go_enter Tryd.func24, Tryd.ntmps24
    go_wp2_with (first
      | (go_at_call 18; refine (ptr_unwrap h hb).mono ?_; clear h; rintro r w ⟨rfl, h⟩))
    go_ret
    exact ⟨rfl, h⟩
  · unfold pnilV
    have hm := m_ptr_unwrap
    have ht := ta_UnP
    go_enter Tryd.func24, Tryd.ntmps24
    go_wp2_with (first
      | (go_at_call 18; refine (nil_unwrap h).mono ?_; clear h; rintro r w ⟨rfl, h⟩))
    go_ret
    exact ⟨rfl, h⟩
set_option maxHeartbeats 1000000 in
theorem unwrap_code {σ w : World} {M : Mm} (h : Has σ M w) (c : Int) :
    Calls Tryd.prog 24 #[codeErr c] w fun r w' => r = .returned .nilIface ∧ Has σ M w' := by
  unfold codeErr
  have ht := ta_UnC
  go_enter Tryd.func24, Tryd.ntmps24
  go_wp2
  go_ret
  exact ⟨rfl, h⟩

/-- How deep: so many links. -/
theorem Link.some {M : Mm} {e e' : Value} (h : Link M e e') : ∃ t v, e = .iface t v := by
  rcases h with ⟨a, rfl⟩ | ⟨b, t, l, wh, rfl, hb⟩ | ⟨rfl, rfl⟩ <;> exact ⟨_, _, rfl⟩
def nz (e : Value) (n : Nat) : Nat := match e with | .nilIface => 0 | _ => n
set_option maxHeartbeats 1000000 in
theorem deep_eq {σ w : World} {M : Mm} (h : Has σ M w) (E : Nat → Value) (m : Nat) (hm : m ≤ 1000) (hl : ∀ i, i < m → Link M (E i) (E (i + 1))) (c : Int) (hE : E m = codeErr c) :
    Calls Tryd.prog 14 #[E 0] w fun r w' => r = .returned (.int .i64 m) ∧ Has σ M w' := by
  have H0 : Hid (∀ i, i < m → Link M (E i) (E (i + 1))) := hl
  have HE : Hid (E m = codeErr c) := hE
  have HS : Hid (∀ i, i ≤ m → ∃ t v, E i = .iface t v) := fun i hi => by
    rcases Nat.lt_or_eq_of_le hi with hi | rfl
    · exact (hl i hi).some
    · exact ⟨_, _, hE⟩
  clear hl hE
  generalize hE0 : E 0 = e0
  go_enter Tryd.func14, Tryd.ntmps14
  go_wp2
  go_loopw [0, 3] (fun e n wr => Has σ M wr ∧ ((∃ k : Nat, k ≤ m ∧ n = .int .i64 k ∧ e = E k) ∨ (n = .int .i64 m ∧ e = .nilIface))) (fun e n _ => nz e (m + 1 - (intOf n).toNat))
  case atStart => exact ⟨h, .inl ⟨0, Nat.zero_le _, rfl, hE0.symm⟩⟩
  case round =>
    clear h w hE0
    obtain ⟨w, rfl⟩ : ∃ x : World, x = wr := ⟨_, rfl⟩
    obtain ⟨h, ⟨k, hk, rfl, hek⟩ | ⟨rfl, rfl⟩⟩ := hrel
    · obtain ⟨t, v, hv⟩ := HS.out k hk
      replace hek := hek.trans hv
      subst hek
      by_cases hlt : k < m
      · have hL := H0.out k hlt
        rw [hv] at hL
        obtain ⟨t', v', hv'⟩ := HS.out (k + 1) hlt
        have HV := Lib.hid hv'
        rw [hv'] at hL
        have C := Lib.hid (unwrap_link h hL)
        clear hv hv' hL
        go_wp2_with (first
          | (go_at_call 24; refine (C.out).mono ?_; clear h; rintro r w ⟨rfl, h⟩))
        go_roundw
        case rel => exact ⟨h, .inl ⟨k + 1, hlt, by go_num, HV.out.symm⟩⟩
        case measure => simp [nz, intOf]; omega
      · obtain rfl : k = m := by omega
        have he := hv.symm.trans HE.out
        rw [he]
        have C := Lib.hid (unwrap_code h c)
        clear hv he
        unfold codeErr at C ⊢
        go_wp2_with (first
          | (go_at_call 24; refine (C.out).mono ?_; clear h; rintro r w ⟨rfl, h⟩))
        go_roundw
        case rel => exact ⟨h, .inr ⟨rfl, rfl⟩⟩
        case measure => simp [nz, intOf]
    · go_wp2
      go_ret
      exact ⟨rfl, h⟩
end Go.Proofs.YtillefeoponkjaaDoor
