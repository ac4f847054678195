/- Walks of law FailBare. -/
import Derived.Test.YtillefeoponkjaaDoorAsJ
namespace Go.Proofs.YtillefeoponkjaaDoor
open Go.RowKit
set_option linter.unusedVariables false
set_option linter.unusedSimpArgs false
/-- What the document calls a code. -/
theorem refName_eq {σ w : World} {M : Mm} (h : Has σ M w) (c : Int) :
    Calls Tryd.prog 15 #[.int .i64 c] w fun r w' => r = .returned (.string (codeName c)) ∧ Has σ M w' := by
  by_cases hc : c < 0 ∨ 16 ≤ c
  · have N : Hid (codeName c = ⟨#[119, 104, 97, 116]⟩) := if_neg (by omega)
    have g : (decide (c < 0) = true ∨ (decide (c < 0) = false ∧ decide ((16 : Int) ≤ c) = true)) := by simp; omega
    clear hc
    go_enter Tryd.func15, Tryd.ntmps15
    go_upto_region 2 with (fail)
    have h := h.quietAlloc (.cells codeCells 9)
    rcases g with g | ⟨g, g'⟩
    · go_wp2
      go_ret
      exact ⟨by rw [N.out]; rfl, h⟩
    · go_wp2
      go_ret
      exact ⟨by rw [N.out]; rfl, h⟩
  · have hc0 : 0 ≤ c := by omega
    have hc16 : c < 16 := by omega
    obtain ⟨k, rfl⟩ : ∃ k : Nat, c = k := ⟨c.toNat, by omega⟩
    have hk : k < 16 := by omega
    have N : Hid (codeName k = codeList.getD k ⟨#[]⟩) := by show _ = _; unfold codeName; rw [if_pos (by omega), Int.toNat_natCast]
    have g : decide ((k : Int) < 0) = false := by simp
    have g' : decide ((16 : Int) ≤ (k : Int)) = false := by simp; omega
    clear hc
    go_enter Tryd.func15, Tryd.ntmps15
    go_upto_region 2 with (fail)
    obtain ⟨M', hbx, hle, hb, hn⟩ := h.box (.cells #[.string ⟨#[111, 107]⟩, .string ⟨#[97, 114, 103]⟩, .string ⟨#[114, 97, 110, 103, 101]⟩, .string ⟨#[102, 111, 114, 109]⟩, .string ⟨#[101, 110, 100]⟩, .string ⟨#[108, 111, 110, 103]⟩, .string ⟨#[110, 111, 110, 101]⟩, .string ⟨#[101, 120, 105, 115, 116, 115]⟩, .string ⟨#[102, 117, 108, 108]⟩, .string ⟨#[108, 105, 109, 98, 111]⟩, .string ⟨#[113, 117, 111, 116, 97]⟩, .string ⟨#[115, 116, 97, 108, 101]⟩, .string ⟨#[112, 111, 108, 105, 99, 121]⟩, .string ⟨#[114, 101, 116, 114, 121]⟩, .string ⟨#[98, 97, 100]⟩, .string ⟨#[119, 111, 114, 110]⟩] 9)
    generalize w.alloc _ = wx at hbx ⊢
    generalize w.heap.size = b at hb hn ⊢
    clear h
    try clear w
    have h := hbx
    clear hbx
    obtain ⟨w, rfl⟩ : ∃ x : World, x = wx := ⟨_, rfl⟩
    have hb : M' b = some (.cells codeCells 9) := hb
    have d := codeCells_get hk
    generalize codeList.getD k ⟨#[]⟩ = s at N d
    go_wp2_with (first
      | (with_reducible show wpList _ _ _ ({ dst := _, op := Op.load 9 _, type := _, pos := _, after := _, guard := _ } :: _) _ _; refine wpList_load1_has h rfl 9 _ rfl rfl hb d Tryd.underlying9 rfl ?_))
    go_ret
    exact ⟨by rw [N.out]; rfl, h.le hle⟩

/-- What a note of a code tells. -/
def noteText (a : ByteArray) (c : Int) : ByteArray := a ++ ⟨#[58, 32]⟩ ++ codeName c
theorem note_error {σ w : World} {M : Mm} (h : Has σ M w) (a : ByteArray) (c : Int) (ha : a.size ≤ 200) :
    Calls Tryd.prog 65 #[.agg #[.string a, codeErr c]] w fun r w' => r = .returned (.string (noteText a c)) ∧ Has σ M w' := by
  have N : Hid (noteText a c = a ++ ⟨#[58, 32]⟩ ++ codeName c) := rfl
  go_enter Tryd.func65, Tryd.ntmps65
  go_upto_region 1 with (first
    | ((with_reducible show wpList _ _ _ ({ dst := _, op := Op.box 57 _, type := _, pos := _, after := _, guard := _ } :: _) _ _); refine wpList_box_has h rfl 57 _ rfl ?_; clear h; intro b w h hn; try simp only [Act.put, List.setIfInBounds_toArray, List.set_cons_zero, List.set_cons_succ]))
  generalize hM1 : M.upd b _ = M1 at h
  have hle : M.le M1 := by rw [← hM1]; exact Mm.le_upd' hn _
  have hb : M1 b = some (.cells #[.string a, codeErr c] 57) := by rw [← hM1]; exact Mm.upd_same _ _ _
  clear hM1 hn
  have d0 : (#[.string a, codeErr c] : Array Value)[0]? = some (.string a) := rfl
  have d1 : (#[.string a, codeErr c] : Array Value)[1]? = some (codeErr c) := rfl
  have C3 : Hid (∀ w1, Has σ M1 w1 → Calls Tryd.prog 10 #[codeErr c] w1 fun r w' => r = .returned (.string (codeName c)) ∧ Has σ M1 w') := fun w1 h => text_code_has h c
  have z2 := codeName_size c
  generalize codeName c = s at C3 N z2
  refine wp_region_class (Has σ M1) (by kernel_rfl) (by kernel_rfl) h.drew ?_
  clear h
  repeat (first
    | go_big_quiet_skip
    | (go_big_quiet_want; first
      | (refine quiet_load_has 9 _ rfl rfl hb d0 Tryd.underlying9 rfl ?_; simp only [Act.put, List.setIfInBounds_toArray, List.set_cons_zero, List.set_cons_succ]; go_big_quiet_on)
      | (refine quiet_load_has 29 _ rfl rfl hb d1 Tryd.underlying29 rfl ?_; simp only [Act.put, List.setIfInBounds_toArray, List.set_cons_zero, List.set_cons_succ]; go_big_quiet_on)
      | (go_big_quiet_op; first | go_big_quiet_on | go_big_quiet_call (first | with_reducible exact fun _ => rfl | with_reducible exact C3.out _))))
  refine wpQuiet_nil ?_
  try clear w
  intro w h
  go_wp2
  go_ret
  exact ⟨by rw [N.out]; rfl, h.le hle⟩
theorem text_note {σ w : World} {M : Mm} (h : Has σ M w) (a : ByteArray) (c : Int) (ha : a.size ≤ 200) :
    Calls Tryd.prog 10 #[noteV a (codeErr c)] w fun r w' => r = .returned (.string (noteText a c)) ∧ Has σ M w' := by
  unfold noteV
  have hm := m_note_error
  go_enter Tryd.func10, Tryd.ntmps10
  go_wp2_with (first
    | (go_at_call 65; refine (note_error h a c ha).mono ?_; clear h; rintro r w ⟨rfl, h⟩))
  go_ret
  exact ⟨rfl, h⟩
def okB : ByteArray := ⟨#[111, 107]⟩
theorem nil_error {σ w : World} {M : Mm} (h : Has σ M w) :
    Calls Tryd.prog 17 #[.pointer none] w fun r w' => r = .returned (.string okB) ∧ Has σ M w' := by
  have T : Hid (∀ w1, Has σ M w1 → Calls Tryd.prog 10 #[.nilIface] w1 fun r w' => r = .returned (.string okB) ∧ Has σ M w') := fun w1 h => text_nil_has h
  go_enter Tryd.func17, Tryd.ntmps17
  go_wp2_with (first
    | (go_at_call 10; refine (T.out _ h).mono ?_; clear h; rintro r w ⟨rfl, h⟩))
  go_ret
  exact ⟨rfl, h⟩
theorem Chain.one {M : Mm} (c : Int) : Chain M (fun _ => codeErr c) 0 c := ⟨by decide, fun i hi => absurd hi (by omega), rfl⟩
set_option maxHeartbeats 1000000 in
theorem bare_walk {σ w : World} {M : Mm} (h : Has σ M w) (hT : ETy M) (c o : Int) (a : ByteArray) :
    Calls Tryd.prog 4 #[.int .i64 c, .int .i64 o, .string a] w fun r w' => r = .returned (.bool true) ∧ Has σ M w' := by
  by_cases ha : 200 < a.size
  · have ha' : decide ((200 : Int) < (a.size : Int)) = true := by simp; omega
    clear ha
    go_enter Tryd.func4, Tryd.ntmps4
    go_wp2_with (first
      | (go_at_call 7; refine (lives_eq h).mono ?_; clear h; rintro r w ⟨rfl, h⟩))
    go_ret
    exact ⟨rfl, h⟩
  · have ha' : decide ((200 : Int) < (a.size : Int)) = false := by simp; omega
    have W0 : Hid (∀ w', Has σ M w' → Calls Tryd.prog 9 #[codeErr c] w' fun r w'' => r = .returned (.tuple #[.int .i64 0, .int .i64 0, .bool false]) ∧ Has σ M w'') := fun w' h => where_code h hT (fun _ => codeErr c) 0 ⟨fun i hi => absurd hi (by omega), ⟨fun d hd => (by cases hd), fun _ => ⟨c, rfl⟩⟩⟩
    have C0 : Hid (∀ w', Has σ M w' → Calls Tryd.prog 12 #[codeErr c] w' fun r w'' => r = .returned (.int .i64 c) ∧ Has σ M w'') := fun w' h => (Chain.one c).code h hT
    have I0 : Hid (∀ w', Has σ M w' → Calls Tryd.prog 13 #[codeErr c, .int .i64 o] w' fun r w'' => r = .returned (.bool (c == o)) ∧ Has σ M w'') := fun w' h => failIs_eq h (fun _ => codeErr c) 0 c o (Chain.one c)
    have D0 : Hid (∀ w', Has σ M w' → Calls Tryd.prog 14 #[codeErr c] w' fun r w'' => r = .returned (.int .i64 0) ∧ Has σ M w'') := fun w' h => (deep_eq h (fun _ => codeErr c) 0 (by omega) (fun i hi => absurd hi (by omega)) c rfl).mono fun r w'' hr => ⟨hr.1.trans (congrArg (fun x => Ending.returned (Value.int .i64 x)) (by omega)), hr.2⟩
    have T0 : Hid (∀ w', Has σ M w' → Calls Tryd.prog 10 #[codeErr c] w' fun r w'' => r = .returned (.string (codeName c)) ∧ Has σ M w'') := fun w' h => text_code_has h c
    have N0 : Hid (∀ w', Has σ M w' → Calls Tryd.prog 16 #[.string a, codeErr c] w' fun r w'' => r = .returned (noteV a (codeErr c)) ∧ Has σ M w'') := fun w' h => note_eq h a _ _
    have HN : Chain M (consE (noteV a (codeErr c)) fun _ => codeErr c) 1 c := (Chain.one c).cons (by omega) (.inl ⟨a, rfl⟩)
    have C1 : Hid (∀ w', Has σ M w' → Calls Tryd.prog 12 #[noteV a (codeErr c)] w' fun r w'' => r = .returned (.int .i64 c) ∧ Has σ M w'') := fun w' h => HN.code h hT
    have D1 : Hid (∀ w', Has σ M w' → Calls Tryd.prog 14 #[noteV a (codeErr c)] w' fun r w'' => r = .returned (.int .i64 1) ∧ Has σ M w'') := fun w' h => (deep_eq h _ 1 (by omega) HN.link c HN.last).mono fun r w'' hr => ⟨hr.1.trans (congrArg (fun x => Ending.returned (Value.int .i64 x)) (by omega)), hr.2⟩
    have T1 : Hid (∀ w', Has σ M w' → Calls Tryd.prog 10 #[noteV a (codeErr c)] w' fun r w'' => r = .returned (.string (noteText a c)) ∧ Has σ M w'') := fun w' h => text_note h a c (by omega)
    have N2 : Hid (∀ w', Has σ M w' → Calls Tryd.prog 16 #[.string a, pnilV] w' fun r w'' => r = .returned (noteV a pnilV) ∧ Has σ M w'') := fun w' h => note_eq h a _ _
    have C2 : Hid (∀ w', Has σ M w' → Calls Tryd.prog 12 #[noteV a pnilV] w' fun r w'' => r = .returned (.int .i64 14) ∧ Has σ M w'') := fun w' h => code_eq h hT (consE (noteV a pnilV) (consE pnilV fun _ => .nilIface)) 2 none ⟨fun i hi => by
      rcases i with _ | _ | i
      · exact .inl ⟨a, rfl⟩
      · exact .inr (.inr ⟨rfl, rfl⟩)
      · omega, ⟨fun d hd => (by cases hd), fun _ => ⟨rfl, by omega⟩⟩⟩
    have C3 : Hid (∀ M' b w', M.le M' → M' b = some (.cells (errCells 0 0 a .nilIface) 45) → Has σ M' w' → Calls Tryd.prog 12 #[perrV b] w' fun r w'' => r = .returned (.int .i64 14) ∧ Has σ M' w'') := fun M' b w' hle hb h => code_eq h (hT.le hle) (consE (perrV b) fun _ => .nilIface) 1 none ⟨fun i hi => by
      obtain rfl : i = 0 := by omega
      exact .inr (.inl ⟨b, 0, 0, a, rfl, hb⟩), ⟨fun d hd => (by cases hd), fun _ => ⟨rfl, by omega⟩⟩⟩
    have NT : Hid (noteText a c = a ++ ⟨#[58, 32]⟩ ++ codeName c) := rfl
    have R0 : Hid (∀ w', Has σ M w' → Calls Tryd.prog 15 #[.int .i64 c] w' fun r w'' => r = .returned (.string (codeName c)) ∧ Has σ M w'') := fun w' h => refName_eq h c
    clear HN hT
    have z1 : a.size ≤ 200 := by omega
    have z2 := codeName_size c
    clear ha
    have e0 : (okB.toList == [111, 107]) = true := by decide +kernel
    have e1 : ((codeName c).toList == (codeName c).toList) = true := beq_self_eq_true _
    have e2 : ((noteText a c).toList == (a ++ ⟨#[58, 32]⟩ ++ codeName c).toList) = true := beq_self_eq_true _
    generalize codeName c = s at T0 NT R0 e1 e2 z2
    generalize noteText a c = s2 at T1 NT e2
    clear NT
    unfold noteV at N0 C1 D1 T1
    unfold codeErr at W0 C0 I0 D0 T0 N0 C1 D1 T1
    generalize Value.agg #[Value.string a, .iface 22 (.int .i64 c)] = vn at N0 C1 D1 T1
    unfold noteV pnilV at N2 C2
    generalize Value.agg #[Value.string a, .iface 41 (.pointer none)] = vz at N2 C2
    unfold perrV errCells at C3
    cases hco : (c == o)
    all_goals
      rw [hco] at I0
      go_enter Tryd.func4, Tryd.ntmps4
      go_upto_region 10 with (first
        | (go_at_call 9; refine (W0.out _ h).mono ?_; clear h; rintro r w ⟨rfl, h⟩)
        | (go_at_call_of 12 vn; refine (C1.out _ h).mono ?_; clear h; rintro r w ⟨rfl, h⟩)
        | (go_at_call 12; refine (C0.out _ h).mono ?_; clear h; rintro r w ⟨rfl, h⟩)
        | (go_at_call 13; refine (I0.out _ h).mono ?_; clear h; rintro r w ⟨rfl, h⟩)
        | (go_at_call_of 14 vn; refine (D1.out _ h).mono ?_; clear h; rintro r w ⟨rfl, h⟩)
        | (go_at_call 14; refine (D0.out _ h).mono ?_; clear h; rintro r w ⟨rfl, h⟩)
        | (go_at_call_of 10 vn; refine (T1.out _ h).mono ?_; clear h; rintro r w ⟨rfl, h⟩)
        | (go_at_call 10; refine (T0.out _ h).mono ?_; clear h; rintro r w ⟨rfl, h⟩)
        | (go_at_call 16; refine (N0.out _ h).mono ?_; clear h; rintro r w ⟨rfl, h⟩)
        | (go_at_call 15; refine (R0.out _ h).mono ?_; clear h; rintro r w ⟨rfl, h⟩))
      go_wp2_with (first
        | (go_at_call 17; refine (nil_error h).mono ?_; clear h; rintro r w ⟨rfl, h⟩)
        | (go_at_call 18; refine (nil_unwrap h).mono ?_; clear h; rintro r w ⟨rfl, h⟩)
        | (go_at_call 16; refine (N2.out _ h).mono ?_; clear h; rintro r w ⟨rfl, h⟩)
        | (go_at_call_of 12 vz; refine (C2.out _ h).mono ?_; clear h; rintro r w ⟨rfl, h⟩)
        | ((with_reducible show wpList _ _ _ ({ dst := _, op := Op.box 45 _, type := _, pos := _, after := _, guard := _ } :: _) _ _); refine wpList_box_has h rfl 45 _ rfl ?_; clear h; intro bx w h hnx; try simp only [Act.put, List.setIfInBounds_toArray, List.set_cons_zero, List.set_cons_succ])
        | (go_at_call_of 12 bx; refine (C3.out _ bx _ (Mm.le_upd' hnx _) (Mm.upd_same _ _ _) h).mono ?_; clear h; rintro r w ⟨rfl, h⟩)
        | (go_at_call 7; refine (lives_eq h).mono ?_; clear h; rintro r w ⟨rfl, h⟩))
      go_ret
      exact ⟨rfl, h.le (Mm.le_upd' hnx _)⟩
end Go.Proofs.YtillefeoponkjaaDoor
