/- Walks of law 8: the chapter's example; what is made and noted; whether texts are too long. -/
import Derived.Test.YtillefeoponkjaaDoorAsG
namespace Go.Proofs.YtillefeoponkjaaDoor
open Go.RowKit
set_option linter.unusedVariables false
set_option linter.unusedSimpArgs false
theorem m_ptr_error (v : Value) (w : World) : (method 237 41 v "Error").run Tryd.prog w = .ok (17, v) w := by kernel_rfl
theorem m_note_error (v : Value) (w : World) : (method 237 57 v "Error").run Tryd.prog w = .ok (65, v) w := by kernel_rfl
theorem text_full {σ w : World} {M : Mm} (h : Has σ M w) (b : Nat) (hb : M b = some (.cells (errCells 1 0 putB (codeErr 8)) 45)) :
    Calls Tryd.prog 10 #[perrV b] w fun r w' => r = .returned (.string fullB) ∧ Has σ M w' := by
  unfold perrV
  have hm := m_ptr_error
  go_enter Tryd.func10, Tryd.ntmps10
  go_wp2_with (first
    | (go_at_call 17; refine (error_full h b hb).mono ?_; clear h; rintro r w ⟨rfl, h⟩))
  go_ret
  exact ⟨rfl, h⟩
set_option maxHeartbeats 1000000 in
theorem lives_eq {σ w : World} {M : Mm} (h : Has σ M w) :
    Calls Tryd.prog 7 #[] w fun r w' => r = .returned (.bool true) ∧ Has σ M w' := by
  have e1 : (fullB.toList == [116, 104, 114, 101, 97, 100, 32, 49, 32, 108, 101, 118, 101, 108, 32, 48, 32, 112, 117, 116, 58, 32, 102, 117, 108, 108]) = true := by decide +kernel
  have N := Lib.hid (failNew_eq h 1 0 putB 8 (by decide))
  unfold perrV at N
  have T : Hid (∀ (M' : Mm) (w' : World) (b : Nat), Has σ M' w' → M' b = some (.cells (errCells 1 0 putB (codeErr 8)) 45) → Calls Tryd.prog 10 #[perrV b] w' fun r w'' => r = .returned (.string fullB) ∧ Has σ M' w'') := fun M' w' b h hb => text_full h b hb
  unfold perrV at T
  go_enter Tryd.func7, Tryd.ntmps7
  go_wp2_with (first
    | (go_at_call 19; refine (N.out).mono ?_; clear h; rintro r w ⟨b, M', rfl, h, hle, hb, hn⟩)
    | (go_at_call 10; refine (T.out _ _ b h hb).mono ?_; clear h; rintro r w ⟨rfl, h⟩))
  go_ret
  exact ⟨rfl, h.le hle⟩

/-- What an error is made by. -/
def sCells (t l : Int) (wh : ByteArray) (c : Int) (v : Value) : Array Value := #[.int .i64 t, .int .i64 l, .string wh, .int .i64 c, v]
def strs (ns : List ByteArray) : List Value := ns.map Value.string
set_option maxHeartbeats 1000000 in
theorem great_eq {σ w : World} {M : Mm} (h : Has σ M w) (t l : Int) (wh : ByteArray) (c : Int) (v : Value) (ns : List ByteArray) (hv : Rd M 1 v ns.length (strs ns)) :
    Calls Tryd.prog 6 #[.agg (sCells t l wh c v)] w fun r w' => ∃ g, r = .returned (.bool g) ∧ Has σ M w' ∧ (g = false → ns.length ≤ 40) := by
  obtain ⟨_, A, cp, rfl, hc, hA⟩ := hv
  generalize hn0 : ns.length = n at hA hc ⊢
  have HN := Lib.hid hn0
  clear hn0
  go_enter Tryd.func6, Tryd.ntmps6
  go_upto_region 1 with (first
    | ((with_reducible show wpList _ _ _ ({ dst := _, op := Op.box 25 _, type := _, pos := _, after := _, guard := _ } :: _) _ _); refine wpList_box_has h rfl 25 _ rfl ?_; clear h; intro bx w h hn; try simp only [Act.put, List.setIfInBounds_toArray, List.set_cons_zero, List.set_cons_succ]))
  go_wp2
  generalize hM1 : M.upd bx _ = M1 at h
  have hle : M.le M1 := by rw [← hM1]; exact Mm.le_upd' hn _
  have hbx : M1 bx = some (.cells (sCells t l wh c (.slice A n cp)) 25) := by rw [← hM1]; exact Mm.upd_same _ _ _
  clear hM1
  have d4 : (sCells t l wh c (.slice A n cp))[4]? = some (.slice A n cp) := rfl
  have d2 : (sCells t l wh c (.slice A n cp))[2]? = some (.string wh) := rfl
  go_loopw [3] (fun i wr => Has σ M1 wr ∧ ∃ k : Nat, k ≤ n ∧ i = .int .i64 k) (fun i _ => n - (intOf i).toNat)
  case atStart => exact ⟨h, 0, Nat.zero_le _, rfl⟩
  case round =>
    clear h w
    obtain ⟨w, rfl⟩ : ∃ x : World, x = wr := ⟨_, rfl⟩
    obtain ⟨h, k, hk, rfl⟩ := hrel
    by_cases hlt : k < n ∧ k < 50
    · obtain ⟨hlt, h50⟩ := hlt
      obtain ⟨b1, o1, cs1, t1, f1, rfl, hM1, hx1⟩ := hA (by omega)
      have e1 := hx1 k (.string (ns.getD k ⟨#[]⟩)) (by have := HN.out; simp [strs, show k < ns.length by omega])
      clear hA hx1
      generalize ns.getD k ⟨#[]⟩ = a at e1
      replace hM1 := hle _ _ hM1
      by_cases ha : 200 < a.size
      · go_wp2_with (first
          | (with_reducible show wpList _ _ _ ({ dst := _, op := Op.load 23 _, type := _, pos := _, after := _, guard := _ } :: _) _ _; refine wpList_load1_has h rfl 23 _ rfl rfl hbx d4 Tryd.underlying23 rfl ?_)
          | (with_reducible show wpList _ _ _ ({ dst := _, op := Op.load 9 _, type := _, pos := _, after := _, guard := _ } :: _) _ _; refine wpList_load1_has h rfl 9 _ rfl rfl hM1 e1 Tryd.underlying9 rfl ?_))
        go_ret
        exact ⟨true, rfl, h.le hle, fun hf => by cases hf⟩
      · go_wp2_with (first
          | (with_reducible show wpList _ _ _ ({ dst := _, op := Op.load 23 _, type := _, pos := _, after := _, guard := _ } :: _) _ _; refine wpList_load1_has h rfl 23 _ rfl rfl hbx d4 Tryd.underlying23 rfl ?_)
          | (with_reducible show wpList _ _ _ ({ dst := _, op := Op.load 9 _, type := _, pos := _, after := _, guard := _ } :: _) _ _; refine wpList_load1_has h rfl 9 _ rfl rfl hM1 e1 Tryd.underlying9 rfl ?_))
        go_roundw
        case rel => exact ⟨h, k + 1, by omega, by go_num⟩
        case measure => simp [intOf]; omega
    · clear hA
      by_cases h40 : n ≤ 40
      · have hkn : k = n := by omega
        subst hkn
        clear hlt
        have g40 : decide ((40 : Int) < (k : Int)) = false := by simp; omega
        go_wp2_with (first
          | (with_reducible show wpList _ _ _ ({ dst := _, op := Op.load 23 _, type := _, pos := _, after := _, guard := _ } :: _) _ _; refine wpList_load1_has h rfl 23 _ rfl rfl hbx d4 Tryd.underlying23 rfl ?_)
          | (with_reducible show wpList _ _ _ ({ dst := _, op := Op.load 9 _, type := _, pos := _, after := _, guard := _ } :: _) _ _; refine wpList_load1_has h rfl 9 _ rfl rfl hbx d2 Tryd.underlying9 rfl ?_))
        go_ret
        exact ⟨_, rfl, h.le hle, fun _ => h40⟩
      · have g40 : decide ((40 : Int) < (n : Int)) = true := by simp; omega
        by_cases hkn : k < n
        · have h50 : ¬ k < 50 := fun h50 => hlt ⟨hkn, h50⟩
          have g50 : decide ((k : Int) < 50) = false := by simp; omega
          clear hlt
          go_wp2_with (first
            | (with_reducible show wpList _ _ _ ({ dst := _, op := Op.load 23 _, type := _, pos := _, after := _, guard := _ } :: _) _ _; refine wpList_load1_has h rfl 23 _ rfl rfl hbx d4 Tryd.underlying23 rfl ?_))
          go_ret
          exact ⟨_, rfl, h.le hle, fun hf => by cases hf⟩
        · clear hlt
          obtain rfl : k = n := by omega
          clear hkn hk
          go_wp2_with (first
            | (with_reducible show wpList _ _ _ ({ dst := _, op := Op.load 23 _, type := _, pos := _, after := _, guard := _ } :: _) _ _; refine wpList_load1_has h rfl 23 _ rfl rfl hbx d4 Tryd.underlying23 rfl ?_))
          go_ret
          exact ⟨_, rfl, h.le hle, fun hf => by cases hf⟩
end Go.Proofs.YtillefeoponkjaaDoor
