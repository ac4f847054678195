/- Walks of layer 8 (fail): Code, Where, Note, New; the chapter's example. -/
import Derived.Test.YtillefeoponkjaaDoorAsE
import Derived.Test.YtillefeoponkjaaDoorItoa
namespace Go.Proofs.YtillefeoponkjaaDoor
open Go.RowKit
set_option linter.unusedVariables false
set_option linter.unusedSimpArgs false

theorem ETy.le {M M' : Mm} (h : ETy M) (hle : M.le M') : ETy M' := by obtain ⟨t, h⟩ := h; exact ⟨t, hle _ _ h⟩
theorem Chain2.mono {M M' : Mm} {E : Nat → Value} {m : Nat} {c : Option Int} (h : Chain2 M E m c) (hle : M.le M') : Chain2 M' E m c := ⟨fun i hi => (h.link i hi).le hle, h.last⟩
theorem Chain.mono {M M' : Mm} {E : Nat → Value} {m : Nat} {c : Int} (h : Chain M E m c) (hle : M.le M') : Chain M' E m c := ⟨h.le, fun i hi => (h.link i hi).le hle, h.last⟩
theorem Chain.two {M : Mm} {E : Nat → Value} {m : Nat} {c : Int} (h : Chain M E m c) : Chain2 M E m (Option.some c) := ⟨h.link, ⟨fun d hd => (by cases hd; exact h.last), fun hn => (by cases hn)⟩⟩
theorem zero_errno : (Tryd.prog.info? 22).bind (·.zero) = some (.int .i64 0) := by kernel_rfl
theorem zero_perr : (Tryd.prog.info? 41).bind (·.zero) = some (.pointer none) := by kernel_rfl

set_option maxHeartbeats 1000000 in
theorem code_nil {σ w : World} {M : Mm} (h : Has σ M w) :
    Calls Tryd.prog 12 #[.nilIface] w fun r w' => r = .returned (.int .i64 0) ∧ Has σ M w' := by
  go_enter Tryd.func12, Tryd.ntmps12
  go_wp2
  go_ret
  exact ⟨rfl, h.quietAlloc _⟩

set_option maxHeartbeats 1000000 in
theorem code_eq {σ w : World} {M : Mm} (h : Has σ M w) (hT : ETy M) (E : Nat → Value) (m : Nat) (c : Option Int) (hC : Chain2 M E m c) :
    Calls Tryd.prog 12 #[E 0] w fun r w' => r = .returned (.int .i64 (c.getD 14)) ∧ Has σ M w' := by
  have HT := Lib.hid hT
  have HA := Lib.hid (fun (b : Nat) (w' : World) (h' : Has σ (M.upd b (.cells (Value.int .i64 0).cells 22)) w') (hn : M b = none) => As_code h' (hT.le (Mm.le_upd' hn _)) E m c (hC.mono (Mm.le_upd' hn _)) b 0 (Mm.upd_same _ _ _))
  obtain ⟨t, v, hv⟩ := hC.first
  rw [hv] at HA ⊢
  clear hv hC hT
  cases c with
  | none =>
    replace HA := Lib.hid (fun b w' h' hn => (HA.out b w' h' hn).mono fun r w'' hq => hq.2 rfl)
    go_enter Tryd.func12, Tryd.ntmps12
    go_wp2_with (first
      | ((with_reducible show wpList _ _ _ ({ dst := _, op := Op.alloc 22, type := _, pos := _, after := _, guard := _ } :: _) _ _); refine wpList_alloc_has h rfl 22 rfl _ zero_errno ?_; clear h; intro b w h hn; try simp only [Act.put, List.setIfInBounds_toArray, List.set_cons_zero, List.set_cons_succ])
      | (go_at_call 20; refine (HA.out _ _ h hn).mono ?_; clear h; rintro r w ⟨rfl, h⟩))
    go_ret
    exact ⟨rfl, h.le (Mm.le_upd' hn _)⟩
  | some d =>
    replace HA := Lib.hid (fun b w' h' hn => (HA.out b w' h' hn).mono fun r w'' hq => hq.1 d rfl)
    simp only [Mm.upd_upd] at HA
    go_enter Tryd.func12, Tryd.ntmps12
    go_wp2_with (first
      | ((with_reducible show wpList _ _ _ ({ dst := _, op := Op.alloc 22, type := _, pos := _, after := _, guard := _ } :: _) _ _); refine wpList_alloc_has h rfl 22 rfl _ zero_errno ?_; clear h; intro b w h hn; try simp only [Act.put, List.setIfInBounds_toArray, List.set_cons_zero, List.set_cons_succ])
      | (go_at_call 20; refine (HA.out _ _ h hn).mono ?_; clear h; rintro r w ⟨rfl, h⟩)
      | (with_reducible show wpList _ _ _ ({ dst := _, op := Op.load 22 _, type := _, pos := _, after := _, guard := _ } :: _) _ _; refine wpList_load1_has h rfl 22 _ rfl rfl (Mm.upd_same _ _ _) (rfl : _ = some (Value.int .i64 d)) Tryd.underlying22 rfl ?_))
    go_ret
    exact ⟨rfl, h.le (Mm.le_upd' hn _)⟩

theorem where_nil {σ w : World} {M : Mm} (h : Has σ M w) :
    Calls Tryd.prog 9 #[.nilIface] w fun r w' => r = .returned (.tuple #[.int .i64 0, .int .i64 0, .bool false]) ∧ Has σ M w' := by
  have HA := Lib.hid (fun (b : Nat) (w' : World) (h' : Has σ (M.upd b (.cells (Value.pointer none).cells 41)) w') => As_nil h' (.iface 51 (.pointer (some ⟨b, 0, none⟩))))
  go_enter Tryd.func9, Tryd.ntmps9
  go_wp2_with (first
    | ((with_reducible show wpList _ _ _ ({ dst := _, op := Op.alloc 41, type := _, pos := _, after := _, guard := _ } :: _) _ _); refine wpList_alloc_has h rfl 41 rfl _ zero_perr ?_; clear h; intro b w h hn; try simp only [Act.put, List.setIfInBounds_toArray, List.set_cons_zero, List.set_cons_succ])
    | (go_at_call 20; refine (HA.out _ _ h).mono ?_; clear h; rintro r w ⟨rfl, h⟩))
  exact bodyPost_ret (v := .tuple #[.int .i64 0, .int .i64 0, .bool false]) (by simp [results, Tryd.results9, go_sem]) rfl ⟨rfl, h.le (Mm.le_upd' hn _)⟩
set_option maxHeartbeats 1000000 in
theorem where_code {σ w : World} {M : Mm} (h : Has σ M w) (hT : ETy M) (E : Nat → Value) (m : Nat) (hC : Chain3 E m none) :
    Calls Tryd.prog 9 #[E 0] w fun r w' => r = .returned (.tuple #[.int .i64 0, .int .i64 0, .bool false]) ∧ Has σ M w' := by
  have HT := Lib.hid hT
  have HA := Lib.hid (fun (b : Nat) (w' : World) (h' : Has σ (M.upd b (.cells (Value.pointer none).cells 41)) w') (hn : M b = none) => (As_ptr h' (hT.le (Mm.le_upd' hn _)) E m none hC b (.pointer none) (Mm.upd_same _ _ _)).mono fun r w'' hq => hq.2 rfl)
  obtain ⟨t, v, hv⟩ := hC.some 0 (Nat.zero_le _)
  rw [hv] at HA ⊢
  clear hv hC hT
  go_enter Tryd.func9, Tryd.ntmps9
  go_wp2_with (first
    | ((with_reducible show wpList _ _ _ ({ dst := _, op := Op.alloc 41, type := _, pos := _, after := _, guard := _ } :: _) _ _); refine wpList_alloc_has h rfl 41 rfl _ zero_perr ?_; clear h; intro b w h hn; try simp only [Act.put, List.setIfInBounds_toArray, List.set_cons_zero, List.set_cons_succ])
    | (go_at_call 20; refine (HA.out _ _ h hn).mono ?_; clear h; rintro r w ⟨rfl, h⟩))
  exact bodyPost_ret (v := .tuple #[.int .i64 0, .int .i64 0, .bool false]) (by simp [results, Tryd.results9, go_sem]) rfl ⟨rfl, h.le (Mm.le_upd' hn _)⟩
set_option maxHeartbeats 1000000 in
theorem where_eq {σ w : World} {M : Mm} (h : Has σ M w) (hT : ETy M) (E : Nat → Value) (m x : Nat) (hC : Chain3 E m (some x)) (t l : Int) (wh : ByteArray) (e : Value) (hx : M x = some (.cells (errCells t l wh e) 45)) :
    Calls Tryd.prog 9 #[E 0] w fun r w' => r = .returned (.tuple #[.int .i64 t, .int .i64 l, .bool true]) ∧ Has σ M w' := by
  have HT := Lib.hid hT
  have HA := Lib.hid (fun (b : Nat) (w' : World) (h' : Has σ (M.upd b (.cells (Value.pointer none).cells 41)) w') (hn : M b = none) => (As_ptr h' (hT.le (Mm.le_upd' hn _)) E m (some x) hC b (.pointer none) (Mm.upd_same _ _ _)).mono fun r w'' hq => hq.1 x rfl)
  simp only [Mm.upd_upd] at HA
  obtain ⟨t0, v0, hv⟩ := hC.some 0 (Nat.zero_le _)
  rw [hv] at HA ⊢
  clear hv hC hT
  go_enter Tryd.func9, Tryd.ntmps9
  go_upto_region 4 with (first
    | ((with_reducible show wpList _ _ _ ({ dst := _, op := Op.alloc 41, type := _, pos := _, after := _, guard := _ } :: _) _ _); refine wpList_alloc_has h rfl 41 rfl _ zero_perr ?_; clear h; intro b w h hn; try simp only [Act.put, List.setIfInBounds_toArray, List.set_cons_zero, List.set_cons_succ])
    | (go_at_call 20; refine (HA.out _ _ h hn).mono ?_; clear h; rintro r w ⟨rfl, h⟩)
    | (with_reducible show wpList _ _ _ ({ dst := _, op := Op.load 41 _, type := _, pos := _, after := _, guard := _ } :: _) _ _; refine wpList_load1_has h rfl 41 _ rfl rfl (Mm.upd_same _ _ _) (rfl : _ = some (Value.pointer (some ⟨x, 0, none⟩))) Tryd.underlying41 rfl ?_))
  have hx' := Mm.upd_of hn hx (o := .cells #[.pointer (some ⟨x, 0, none⟩)] 41)
  have hb' := Mm.upd_same M b (.cells #[.pointer (some ⟨x, 0, none⟩)] 41)
  have hle := Mm.le_upd' hn (.cells #[.pointer (some ⟨x, 0, none⟩)] 41)
  generalize M.upd b _ = M2 at h hx' hb' hle
  have c0 : (#[Value.pointer (some ⟨x, 0, none⟩)] : Array Value)[0]? = some (.pointer (some ⟨x, 0, none⟩)) := rfl
  have d0 : (errCells t l wh e)[0]? = some (.int .i64 t) := rfl
  have d1 : (errCells t l wh e)[1]? = some (.int .i64 l) := rfl
  refine wp_region_class (Has σ M2) (by kernel_rfl) (by kernel_rfl) h.drew ?_
  clear h
  repeat (first
    | go_big_quiet_skip
    | (go_big_quiet_want; first
      | (refine quiet_load_has 41 _ rfl rfl hb' c0 Tryd.underlying41 rfl ?_; simp only [Act.put, List.setIfInBounds_toArray, List.set_cons_zero, List.set_cons_succ]; go_big_quiet_on)
      | (refine quiet_load_has 3 _ rfl rfl hx' d0 Tryd.underlying3 rfl ?_; simp only [Act.put, List.setIfInBounds_toArray, List.set_cons_zero, List.set_cons_succ]; go_big_quiet_on)
      | (refine quiet_load_has 3 _ rfl rfl hx' d1 Tryd.underlying3 rfl ?_; simp only [Act.put, List.setIfInBounds_toArray, List.set_cons_zero, List.set_cons_succ]; go_big_quiet_on)
      | (go_big_quiet_op; first | go_big_quiet_on | go_big_quiet_call (first | with_reducible exact fun _ => rfl))))
  refine wpQuiet_nil ?_
  try clear w
  intro w h
  go_wp2
  exact bodyPost_ret (v := .tuple #[.int .i64 t, .int .i64 l, .bool true]) (by simp [results, Tryd.results9, go_sem]) rfl ⟨rfl, h.le hle⟩
end Go.Proofs.YtillefeoponkjaaDoor
