/- Walks of layer 8 (fail): the chapter's example's text. -/
import Derived.Test.YtefgeeckfofkfaaFailA
namespace Go.Proofs.Ytefgeeckfofkfaa
open Go.RowKit

/-! ### Itoa of 0, as the chapter's example has it -/
set_option maxHeartbeats 400000 in
theorem small_0 (w : World) : Calls Try.prog 55 #[.int .i64 0] w fun r w' => r = .returned (.string ⟨#[48]⟩) ∧ w = w' := by
  go_enter Try.func55, Try.ntmps55
  go_wp2
  go_ret
  exact ⟨rfl, rfl⟩
set_option maxHeartbeats 400000 in
theorem fmti_0 (w : World) : Calls Try.prog 54 #[.int .i64 0, .int .i64 10] w fun r w' => r = .returned (.string ⟨#[48]⟩) ∧ w = w' := by
  go_enter Try.func54, Try.ntmps54
  go_wp2_with (go_at_call 55; refine (small_0 _).mono ?_; rintro r w1 ⟨rfl, rfl⟩)
  go_ret
  exact ⟨rfl, rfl⟩
set_option maxHeartbeats 400000 in
theorem itoa_0 (w : World) : Calls Try.prog 52 #[.int .i64 0] w fun r w' => r = .returned (.string ⟨#[48]⟩) ∧ w = w' := by
  have h : ∀ w, Calls Try.prog 53 #[.int .i64 0] w fun r w' => r = .returned (.string ⟨#[48]⟩) ∧ w = w' := fun w => by
    go_enter Try.func53, Try.ntmps53
    go_wp2_with (go_at_call 54; refine (fmti_0 _).mono ?_; rintro r w1 ⟨rfl, rfl⟩)
    go_ret
    exact ⟨rfl, rfl⟩
  have H := Lib.hid h
  clear h
  go_enter Try.func52, Try.ntmps52
  go_wp2_with (go_at_call 53; refine (H.out _).mono ?_; rintro r w1 ⟨rfl, rfl⟩)
  go_ret
  exact ⟨rfl, rfl⟩

def InvErr (b : Nat) (cs : Array Value) (w w' : World) : Prop := Blk w' b cs 64 ∧ Below w.heap.size w w'

set_option maxHeartbeats 1000000 in
theorem error_00 (b : Nat) (e : Int) (w : World) (hb : Blk w b (errCells 0 0 ⟨#[112, 117, 116]⟩ (codeErr e)) 64) : Calls Try.prog 51 #[.pointer (some ⟨b, 0, none⟩)] w fun r w' =>
    r = .returned (.string (⟨#[116, 104, 114, 101, 97, 100, 32, 48, 32, 108, 101, 118, 101, 108, 32, 48, 32, 112, 117, 116, 58, 32]⟩ ++ codeName e)) ∧ Below w.heap.size w w' := by
  have hsz := codeName_size e
  have I : InvErr b (errCells 0 0 ⟨#[112, 117, 116]⟩ (codeErr e)) w w := ⟨hb, Below.refl _ _⟩
  have C1 : Hid (∀ w1, InvErr b (errCells 0 0 ⟨#[112, 117, 116]⟩ (codeErr e)) w w1 → Calls Try.prog 52 #[.int .i64 0] w1 fun r w' => r = .returned (.string ⟨#[48]⟩) ∧ InvErr b (errCells 0 0 ⟨#[112, 117, 116]⟩ (codeErr e)) w w') :=
    fun w1 h => (itoa_0 _).mono fun _ _ ⟨h1, h2⟩ => ⟨h1, h2 ▸ h⟩
  have C2 : Hid (∀ w1, InvErr b (errCells 0 0 ⟨#[112, 117, 116]⟩ (codeErr e)) w w1 → Calls Try.prog 20 #[codeErr e] w1 fun r w' => r = .returned (.string (codeName e)) ∧ InvErr b (errCells 0 0 ⟨#[112, 117, 116]⟩ (codeErr e)) w w') :=
    fun w1 h => (text_code _ _).mono fun _ _ ⟨h1, h2⟩ => ⟨h1, h.1.below h2 h.1.lt, h.2.trans (h2.mono h.2.size)⟩
  go_enter Try.func51, Try.ntmps51
  go_upto_region 3 with (fail)
  refine wp_region_class (InvErr b (errCells 0 0 ⟨#[112, 117, 116]⟩ (codeErr e)) w) (by kernel_rfl) (by kernel_rfl) ⟨I.1.drew, I.2.drew⟩ ?_
  repeat (first
    | go_big_quiet_skip
    | (go_big_quiet_want; first
      | (refine quiet_load_one 3 _ rfl b 0 rfl (.int .i64 0) _ (fun _ h => h.1.cell 0) Try.underlying3 rfl ?_; simp only [Act.put, List.setIfInBounds_toArray, List.set_cons_zero, List.set_cons_succ]; go_big_quiet_on)
      | (refine quiet_load_one 3 _ rfl b 1 rfl (.int .i64 0) _ (fun _ h => h.1.cell 1) Try.underlying3 rfl ?_; simp only [Act.put, List.setIfInBounds_toArray, List.set_cons_zero, List.set_cons_succ]; go_big_quiet_on)
      | (refine quiet_load_one 9 _ rfl b 2 rfl (.string ⟨#[112, 117, 116]⟩) _ (fun _ h => h.1.cell 2) Try.underlying9 rfl ?_; simp only [Act.put, List.setIfInBounds_toArray, List.set_cons_zero, List.set_cons_succ]; go_big_quiet_on)
      | (refine quiet_load_one 42 _ rfl b 3 rfl (codeErr e) _ (fun _ h => h.1.cell 3) Try.underlying42 rfl ?_; simp only [Act.put, List.setIfInBounds_toArray, List.set_cons_zero, List.set_cons_succ]; go_big_quiet_on)
      | (go_big_quiet_op; first | go_big_quiet_on | go_big_quiet_call (first | with_reducible exact fun _ => rfl | with_reducible exact C1.out _ | with_reducible exact C2.out _))))
  refine wpQuiet_nil ?_
  intro w2 hI
  go_wp2
  go_ret
  exact ⟨congrArg (fun x : ByteArray => Ending.returned (Value.string (x ++ codeName e))) rfl, hI.2⟩

set_option maxHeartbeats 400000 in
theorem text_00 (b : Nat) (e : Int) (w : World) (hb : Blk w b (errCells 0 0 ⟨#[112, 117, 116]⟩ (codeErr e)) 64) : Calls Try.prog 20 #[.iface 62 (.pointer (some ⟨b, 0, none⟩))] w fun r w' =>
    r = .returned (.string (⟨#[116, 104, 114, 101, 97, 100, 32, 48, 32, 108, 101, 118, 101, 108, 32, 48, 32, 112, 117, 116, 58, 32]⟩ ++ codeName e)) ∧ Below w.heap.size w w' := by
  have hm : ∀ w, (method 199 62 (.pointer (some ⟨b, 0, none⟩)) "Error").run Try.prog w = .ok (51, .pointer (some ⟨b, 0, none⟩)) w := fun _ => by kernel_rfl
  go_enter Try.func20, Try.ntmps20
  go_wp2_with (go_at_call 51; refine (error_00 b e _ hb).mono ?_; rintro r w1 ⟨rfl, hw⟩)
  go_ret
  exact ⟨rfl, hw⟩

end Go.Proofs.Ytefgeeckfofkfaa
