/- Walks of law 8: the chapter's example; what is made and noted. -/
import Derived.Test.YtillefeoponkjaaDoorAsF
namespace Go.Proofs.YtillefeoponkjaaDoor
open Go.RowKit
set_option linter.unusedVariables false
set_option linter.unusedSimpArgs false

theorem failNew_eq {σ w : World} {M : Mm} (h : Has σ M w) (t l : Int) (wh : ByteArray) (e : Int) (he : e ≠ 0) :
    Calls Tryd.prog 19 #[.int .i64 t, .int .i64 l, .string wh, .int .i64 e] w fun r w' => ∃ b M', r = .returned (perrV b) ∧ Has σ M' w' ∧ M.le M' ∧ M' b = some (.cells (errCells t l wh (codeErr e)) 45) ∧ M b = none := by
  have hd : (e == 0) = false := beq_eq_false_iff_ne.2 he
  clear he
  go_enter Tryd.func19, Tryd.ntmps19
  go_wp2
  go_ret
  exact ⟨_, _, rfl, h.alloc _, Mm.le_upd' h.fresh _, Mm.upd_same _ _ _, h.fresh⟩

theorem note_nil {σ w : World} {M : Mm} (h : Has σ M w) (a : ByteArray) :
    Calls Tryd.prog 16 #[.string a, .nilIface] w fun r w' => r = .returned .nilIface ∧ Has σ M w' := by
  go_enter Tryd.func16, Tryd.ntmps16
  go_wp2
  go_ret
  exact ⟨rfl, h⟩
theorem note_eq {σ w : World} {M : Mm} (h : Has σ M w) (a : ByteArray) (t : TypeId) (v : Value) :
    Calls Tryd.prog 16 #[.string a, .iface t v] w fun r w' => r = .returned (noteV a (.iface t v)) ∧ Has σ M w' := by
  go_enter Tryd.func16, Tryd.ntmps16
  go_wp2
  go_ret
  exact ⟨rfl, h⟩

theorem text_code_has {σ w : World} {M : Mm} (h : Has σ M w) (e : Int) :
    Calls Tryd.prog 10 #[codeErr e] w fun r w' => r = .returned (.string (codeName e)) ∧ Has σ M w' :=
  (text_code e w).mono fun r w' ⟨hr, hb⟩ => ⟨hr, h.below hb⟩
theorem text_nil_has {σ w : World} {M : Mm} (h : Has σ M w) :
    Calls Tryd.prog 10 #[.nilIface] w fun r w' => r = .returned (.string (codeName 0)) ∧ Has σ M w' :=
  (text_nil w).mono fun r w' ⟨hr, hb⟩ => ⟨hr, h.below hb⟩

def putB : ByteArray := ⟨#[112, 117, 116]⟩
def fullB : ByteArray := ⟨#[116, 104, 114, 101, 97, 100, 32, 49, 32, 108, 101, 118, 101, 108, 32, 48, 32, 112, 117, 116, 58, 32, 102, 117, 108, 108]⟩
set_option maxHeartbeats 1000000 in
theorem error_full {σ w : World} {M : Mm} (h : Has σ M w) (b : Nat) (hb : M b = some (.cells (errCells 1 0 putB (codeErr 8)) 45)) :
    Calls Tryd.prog 17 #[.pointer (some ⟨b, 0, none⟩)] w fun r w' => r = .returned (.string fullB) ∧ Has σ M w' := by
  have C1 : Hid (∀ w1, Has σ M w1 → Calls Tryd.prog 25 #[.int .i64 1] w1 fun r w' => r = .returned (.string ⟨#[49]⟩) ∧ Has σ M w') := fun w1 h => itoa_has h 1 (by decide)
  have C2 : Hid (∀ w1, Has σ M w1 → Calls Tryd.prog 25 #[.int .i64 0] w1 fun r w' => r = .returned (.string ⟨#[48]⟩) ∧ Has σ M w') := fun w1 h => itoa_has h 0 (by decide)
  have C3 : Hid (∀ w1, Has σ M w1 → Calls Tryd.prog 10 #[codeErr 8] w1 fun r w' => r = .returned (.string ⟨#[102, 117, 108, 108]⟩) ∧ Has σ M w') := fun w1 h => text_code_has h 8
  have d0 : (errCells 1 0 putB (codeErr 8))[0]? = some (.int .i64 1) := rfl
  have d1 : (errCells 1 0 putB (codeErr 8))[1]? = some (.int .i64 0) := rfl
  have d2 : (errCells 1 0 putB (codeErr 8))[2]? = some (.string ⟨#[112, 117, 116]⟩) := rfl
  have d3 : (errCells 1 0 putB (codeErr 8))[3]? = some (codeErr 8) := rfl
  go_enter Tryd.func17, Tryd.ntmps17
  go_upto_region 3 with (fail)
  refine wp_region_class (Has σ M) (by kernel_rfl) (by kernel_rfl) h.drew ?_
  clear h
  repeat (first
    | go_big_quiet_skip
    | (go_big_quiet_want; first
      | (refine quiet_load_has 3 _ rfl rfl hb d0 Tryd.underlying3 rfl ?_; simp only [Act.put, List.setIfInBounds_toArray, List.set_cons_zero, List.set_cons_succ]; go_big_quiet_on)
      | (refine quiet_load_has 3 _ rfl rfl hb d1 Tryd.underlying3 rfl ?_; simp only [Act.put, List.setIfInBounds_toArray, List.set_cons_zero, List.set_cons_succ]; go_big_quiet_on)
      | (refine quiet_load_has 9 _ rfl rfl hb d2 Tryd.underlying9 rfl ?_; simp only [Act.put, List.setIfInBounds_toArray, List.set_cons_zero, List.set_cons_succ]; go_big_quiet_on)
      | (refine quiet_load_has 29 _ rfl rfl hb d3 Tryd.underlying29 rfl ?_; simp only [Act.put, List.setIfInBounds_toArray, List.set_cons_zero, List.set_cons_succ]; go_big_quiet_on)
      | (go_big_quiet_op; first | go_big_quiet_on | go_big_quiet_call (first | with_reducible exact fun _ => rfl | with_reducible exact C1.out _ | with_reducible exact C2.out _ | with_reducible exact C3.out _))))
  refine wpQuiet_nil ?_
  try clear w
  intro w h
  go_wp2
  go_ret
  exact ⟨by kernel_rfl, h⟩
end Go.Proofs.YtillefeoponkjaaDoor
