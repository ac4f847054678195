/- Numbers told in base 36: 0. -/
import Derived.Test.YtjnhklhgcbknkaaGreatDoorMoD
namespace Go.Proofs.YtjnhklhgcbknkaaGreatDoor
open Go.RowKit
set_option linter.unusedVariables false
set_option linter.unusedSimpArgs false
set_option linter.unnecessarySimpa false
def zer65 : Array Value := #[.int .u8 0, .int .u8 0, .int .u8 0, .int .u8 0, .int .u8 0, .int .u8 0, .int .u8 0, .int .u8 0, .int .u8 0, .int .u8 0, .int .u8 0, .int .u8 0, .int .u8 0, .int .u8 0, .int .u8 0, .int .u8 0, .int .u8 0, .int .u8 0, .int .u8 0, .int .u8 0, .int .u8 0, .int .u8 0, .int .u8 0, .int .u8 0, .int .u8 0, .int .u8 0, .int .u8 0, .int .u8 0, .int .u8 0, .int .u8 0, .int .u8 0, .int .u8 0, .int .u8 0, .int .u8 0, .int .u8 0, .int .u8 0, .int .u8 0, .int .u8 0, .int .u8 0, .int .u8 0, .int .u8 0, .int .u8 0, .int .u8 0, .int .u8 0, .int .u8 0, .int .u8 0, .int .u8 0, .int .u8 0, .int .u8 0, .int .u8 0, .int .u8 0, .int .u8 0, .int .u8 0, .int .u8 0, .int .u8 0, .int .u8 0, .int .u8 0, .int .u8 0, .int .u8 0, .int .u8 0, .int .u8 0, .int .u8 0, .int .u8 0, .int .u8 0, .int .u8 0]
theorem z65 : (Tryz.prog.info? 198).bind (·.zero) = some (.agg zer65) := by kernel_rfl
theorem zer65_size : zer65.size = 65 := rfl
section
variable {σ w : World} {M : Mm}
set_option maxHeartbeats 1000000 in
theorem pow2_36 (h : Has σ M w) : Calls Tryz.prog 100 #[.int .i64 36] w fun r w' => r = .returned (.bool false) ∧ Has σ M w' := by
  go_enter Tryz.func100, Tryz.ntmps100
  go_wp2
  go_ret
  exact ⟨rfl, h⟩
set_option maxHeartbeats 1000000 in
theorem bits_0 {σ w : World} {M : Mm} (h : Has σ M w) : Calls Tryz.prog 80 #[.slice none 0 0, .int .u64 0, .int .i64 36, .bool false, .bool false] w fun r w' => r = .returned (.tuple #[.slice none 0 0, .string ⟨#[48]⟩]) ∧ Has σ M w' := by
  have zz := zer65_size
  go_enter Tryz.func80, Tryz.ntmps80
  go_upto_region 4 with (first
    | ((with_reducible show wpList _ _ _ ({ dst := some 12, op := Op.alloc 198, type := _, pos := _, after := _, guard := _ } :: _) _ _); refine wpList_alloc_has h rfl 198 rfl _ z65 ?_; clear h; intro b12 w h hn12; try simp only [Act.put, List.setIfInBounds_toArray, List.set_cons_zero, List.set_cons_succ]))
  generalize zer65 = zs at *
  replace h : Has σ (M.upd b12 (.cells zs 198)) w := h
  have hb := Mm.upd_same M b12 (.cells zs 198)
  have hle := Mm.le_upd' hn12 (.cells zs 198)
  generalize M.upd b12 (.cells zs 198) = M1 at h hb hle
  have PW := Lib.hid (fun (w : World) (h : Has σ M1 w) => pow2_36 h)
  have l64 : 64 < zs.size := by rw [zz]; decide
  have CV : Hid (∀ w, Has σ (M1.upd b12 (.cells (zs.setIfInBounds 64 (.int .u8 48)) 198)) w → (convert 106 9 (.slice (some ⟨b12, 64, none⟩) 1 1)).run Tryz.prog w = .ok (.string ⟨#[48]⟩) w) := fun w h => by
    have := run_convert_bytes_back (P := Tryz.prog) w 106 9 5 ⟨b12, 64, none⟩ 1 [48] Tryz.underlying106 Tryz.underlying5 Tryz.underlying9 (fun j hj => by
      obtain rfl : j = 0 := by simpa using hj
      rw [show (⟨b12, 64, none⟩ : Addr).add 0 = ⟨b12, 64, none⟩ from rfl, h.cell (Mm.upd_same _ _ _), Array.getElem?_setIfInBounds_self_of_lt l64]
      rfl)
    exact this
  go_upto_region 18 with (first
    | (go_at_call 100; refine (PW.out _ h).mono ?_; clear h; rintro _ w ⟨rfl, h⟩))
  go_loopw [1, 13] (fun u i wr => u = .int .u64 0 ∧ i = .int .i64 65 ∧ Has σ M1 wr) (fun _ _ _ => 0)
  case atStart => exact ⟨rfl, rfl, h⟩
  case round =>
    clear h w
    obtain ⟨w, rfl⟩ : ∃ x : World, x = wr := ⟨_, rfl⟩
    obtain ⟨rfl, rfl, h⟩ := hrel
    go_upto_region 30 with (first
      | (with_reducible show wpList _ _ _ ({ dst := _, op := Op.store 5 _ _, type := _, pos := _, after := _, guard := _ } :: _) _ _; refine wpList_store1_has h rfl 5 _ _ rfl rfl rfl hb l64 rfl (by kernel_rfl) ?_; clear h; intro w h))
    have CV2 := CV.out _ h
    go_wp2
    go_ret2
    exact ⟨rfl, h.le (Mm.le_upd hle hn12 _)⟩
theorem fmtu_0 (h : Has σ M w) : Calls Tryz.prog 66 #[.int .u64 0, .int .i64 36] w fun r w' => r = .returned (.string ⟨#[48]⟩) ∧ Has σ M w' := by
  have FB := Lib.hid (fun (w : World) (h : Has σ M w) => bits_0 h)
  go_enter Tryz.func66, Tryz.ntmps66
  go_wp2_with (first
    | (go_at_call 80; refine (FB.out _ h).mono ?_; clear h; rintro _ w ⟨rfl, h⟩))
  go_ret
  exact ⟨rfl, h⟩
theorem formatUint_0 (h : Has σ M w) : Calls Tryz.prog 52 #[.int .u64 0, .int .i64 36] w fun r w' => r = .returned (.string ⟨#[48]⟩) ∧ Has σ M w' := by
  have FB := Lib.hid (fun (w : World) (h : Has σ M w) => fmtu_0 h)
  go_enter Tryz.func52, Tryz.ntmps52
  go_wp2_with (first
    | (go_at_call 66; refine (FB.out _ h).mono ?_; clear h; rintro _ w ⟨rfl, h⟩))
  go_ret
  exact ⟨rfl, h⟩
end
end Go.Proofs.YtjnhklhgcbknkaaGreatDoor
