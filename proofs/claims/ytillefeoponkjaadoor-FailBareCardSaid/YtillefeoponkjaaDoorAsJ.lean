/- Walk of law FailKeeps. -/
import Derived.Test.YtillefeoponkjaaDoorAsI
namespace Go.Proofs.YtillefeoponkjaaDoor
open Go.RowKit
set_option linter.unusedVariables false
set_option linter.unusedSimpArgs false
theorem Chain.code {σ w : World} {M : Mm} (h : Has σ M w) (hT : ETy M) {E : Nat → Value} {m : Nat} {c : Int} (hC : Chain M E m c) :
    Calls Tryd.prog 12 #[E 0] w fun r w' => r = .returned (.int .i64 c) ∧ Has σ M w' := code_eq h hT E m (Option.some c) hC.two

set_option maxHeartbeats 1000000 in
theorem keeps_walk {σ w : World} {M : Mm} (h : Has σ M w) (hT : ETy M) (t l : Int) (wh : ByteArray) (c : Int) (v : Value) (ns : List ByteArray) (hv : Rd M 1 v ns.length (strs ns)) (a : ByteArray) (x0 x1 : Int) :
    Calls Tryd.prog 5 #[.agg (sCells t l wh c v), .string a, .agg #[.int .i64 x0, .int .i64 x1]] w fun r w' => r = .returned (.bool true) ∧ Has σ M w' := by
  go_enter Tryd.func5, Tryd.ntmps5
  go_upto_region 1 with (first
    | ((with_reducible show wpList _ _ _ ({ dst := _, op := Op.box 25 _, type := _, pos := _, after := _, guard := _ } :: _) _ _); refine wpList_box_has h rfl 25 _ rfl ?_; clear h; intro b1 w h hn1; try simp only [Act.put, List.setIfInBounds_toArray, List.set_cons_zero, List.set_cons_succ])
    | ((with_reducible show wpList _ _ _ ({ dst := _, op := Op.box 47 _, type := _, pos := _, after := _, guard := _ } :: _) _ _); refine wpList_box_has h rfl 47 _ rfl ?_; clear h; intro b2 w h hn2; try simp only [Act.put, List.setIfInBounds_toArray, List.set_cons_zero, List.set_cons_succ]))
  generalize hM1 : (M.upd b1 _).upd b2 _ = M1 at h
  have hle : M.le M1 := by rw [← hM1]; exact Mm.le_trans (Mm.le_upd' hn1 _) (Mm.le_upd' hn2 _)
  have hb1 : M1 b1 = some (.cells (sCells t l wh c v) 25) := by rw [← hM1, Mm.upd_ne (Mm.ne_of hn2 (Mm.upd_same _ _ _))]; exact Mm.upd_same _ _ _
  have hb2 : M1 b2 = some (.cells #[.int .i64 x0, .int .i64 x1] 47) := by rw [← hM1]; exact Mm.upd_same _ _ _
  clear hM1
  have G := Lib.hid (great_eq h t l wh c v ns (hv.le hle))
  have hx : (sCells t l wh c v).extract 0 (0 + 5) = #[.int .i64 t, .int .i64 l, .string wh, .int .i64 c, v] := rfl
  by_cases ha : 200 < a.size
  · go_wp2_with (first
      | ((with_reducible show wpList _ _ _ ({ dst := _, op := Op.load 25 _, type := _, pos := _, after := _, guard := _ } :: _) _ _); refine wpList_agg_has h rfl 25 _ rfl rfl hb1 hx rfl Tryd.underlying25 rfl (by kernel_rfl) ?_; try simp only [Act.put, List.setIfInBounds_toArray, List.set_cons_zero, List.set_cons_succ])
      | (go_at_call 6; refine G.out.mono ?_; clear h; rintro r w ⟨g, rfl, h, hg⟩; cases g)
      | (go_at_call 7; refine (lives_eq h).mono ?_; clear h; rintro r w ⟨rfl, h⟩))
    · go_ret
      exact ⟨rfl, h.le hle⟩
    · go_wp2_with (first
        | (go_at_call 7; refine (lives_eq h).mono ?_; clear h; rintro r w ⟨rfl, h⟩))
      go_ret
      exact ⟨rfl, h.le hle⟩
  · go_upto_region 3 with (first
      | ((with_reducible show wpList _ _ _ ({ dst := _, op := Op.load 25 _, type := _, pos := _, after := _, guard := _ } :: _) _ _); refine wpList_agg_has h rfl 25 _ rfl rfl hb1 hx rfl Tryd.underlying25 rfl (by kernel_rfl) ?_; try simp only [Act.put, List.setIfInBounds_toArray, List.set_cons_zero, List.set_cons_succ])
      | (go_at_call 6; refine G.out.mono ?_; clear h; rintro r w ⟨g, rfl, h, hg⟩; cases g))
    · have h40 := hg (by trivial)
      clear hg G ha
      have hT1 := hT.le hle
      by_cases hc : c = 0
      · subst hc
        have OF := Lib.hid (of_ok h t l wh v ns (hv.le hle) h40)
        clear h40
        go_wp2_with (first
          | ((with_reducible show wpList _ _ _ ({ dst := _, op := Op.load 25 _, type := _, pos := _, after := _, guard := _ } :: _) _ _); refine wpList_agg_has h rfl 25 _ rfl rfl hb1 hx rfl Tryd.underlying25 rfl (by kernel_rfl) ?_; try simp only [Act.put, List.setIfInBounds_toArray, List.set_cons_zero, List.set_cons_succ])
          | (go_at_call 8; refine (OF.out).mono ?_; clear h; rintro r w ⟨rfl, h⟩)
          | (go_at_call 16; refine (note_nil h a).mono ?_; clear h; rintro r w ⟨rfl, h⟩)
          | (go_at_call 9; refine (where_nil h).mono ?_; clear h; rintro r w ⟨rfl, h⟩)
          | (go_at_call 12; refine (code_nil h).mono ?_; clear h; rintro r w ⟨rfl, h⟩)
          | (go_at_call 13; refine (failIs_nil h 0).mono ?_; clear h; rintro r w ⟨rfl, h⟩)
          | (go_at_call 7; refine (lives_eq h).mono ?_; clear h; rintro r w ⟨rfl, h⟩))
        go_ret
        exact ⟨rfl, h.le hle⟩
      · have OF := Lib.hid (of_err h t l wh c hc v ns (hv.le hle) h40)
        clear hv hc
        generalize ns.length = k at OF h40
        go_upto_region 4 with (first
          | ((with_reducible show wpList _ _ _ ({ dst := _, op := Op.load 25 _, type := _, pos := _, after := _, guard := _ } :: _) _ _); refine wpList_agg_has h rfl 25 _ rfl rfl hb1 hx rfl Tryd.underlying25 rfl (by kernel_rfl) ?_; try simp only [Act.put, List.setIfInBounds_toArray, List.set_cons_zero, List.set_cons_succ])
          | (go_at_call 8; refine (OF.out).mono ?_; clear h; rintro r w ⟨b, M2, E, rfl, h, hle2, hb, hN⟩))
        clear OF
        have hT2 := hT1.le hle2
        have HN := hN.note (by omega) a
        obtain ⟨te, ve, hE⟩ := hN.chain.some 0 (Nat.zero_le _)
        rw [hE] at HN ⊢
        have NT : Hid (∀ w', Has σ M2 w' → Calls Tryd.prog 16 #[.string a, .iface te ve] w' fun r w'' => r = .returned (noteV a (.iface te ve)) ∧ Has σ M2 w'') := fun w' h => note_eq h a te ve
        have WE : Hid (∀ w', Has σ M2 w' → Calls Tryd.prog 9 #[.iface te ve] w' fun r w'' => r = .returned (.tuple #[.int .i64 t, .int .i64 l, .bool true]) ∧ Has σ M2 w'') := fun w' h => hE ▸ where_eq h hT2 E k b hN.first t l wh _ hb
        have WN : Hid (∀ w', Has σ M2 w' → Calls Tryd.prog 9 #[noteV a (.iface te ve)] w' fun r w'' => r = .returned (.tuple #[.int .i64 t, .int .i64 l, .bool true]) ∧ Has σ M2 w'') := fun w' h => where_eq h hT2 _ (k + 1) b HN.first t l wh _ hb
        have CE : Hid (∀ M' w', M2.le M' → Has σ M' w' → Calls Tryd.prog 12 #[.iface te ve] w' fun r w'' => r = .returned (.int .i64 c) ∧ Has σ M' w'') := fun M' w' hl h => hE ▸ (hN.chain.mono hl).code h (hT2.le hl)
        have CN : Hid (∀ w', Has σ M2 w' → Calls Tryd.prog 12 #[noteV a (.iface te ve)] w' fun r w'' => r = .returned (.int .i64 c) ∧ Has σ M2 w'') := fun w' h => HN.chain.code h hT2
        have IN : Hid (∀ w', Has σ M2 w' → Calls Tryd.prog 13 #[noteV a (.iface te ve), .int .i64 c] w' fun r w'' => r = .returned (.bool true) ∧ Has σ M2 w'') := fun w' h => (failIs_eq h _ (k + 1 + 1) c c HN.chain).mono fun r w'' ⟨hr, hw⟩ => ⟨by rw [hr, beq_self_eq_true], hw⟩
        unfold noteV at NT WN CN IN HN
        generalize Value.agg #[Value.string a, Value.iface te ve] = vn at NT WN CN IN HN
        go_upto_region 11 with (first
          | (go_at_call 16; refine (NT.out _ h).mono ?_; clear h; rintro r w ⟨rfl, h⟩)
          | (go_at_call_of 9 vn; refine (WN.out _ h).mono ?_; clear h; rintro r w ⟨rfl, h⟩)
          | (go_at_call 9; refine (WE.out _ h).mono ?_; clear h; rintro r w ⟨rfl, h⟩)
          | (go_at_call_of 12 vn; refine (CN.out _ h).mono ?_; clear h; rintro r w ⟨rfl, h⟩)
          | (go_at_call 12; refine (CE.out _ _ (Mm.le_refl _) h).mono ?_; clear h; rintro r w ⟨rfl, h⟩)
          | (go_at_call 13; refine (IN.out _ h).mono ?_; clear h; rintro r w ⟨rfl, h⟩))
        have f0 : (#[.int .i64 x0, .int .i64 x1] : Array Value)[0]? = some (.int .i64 x0) := rfl
        have f1 : (#[.int .i64 x0, .int .i64 x1] : Array Value)[1]? = some (.int .i64 x1) := rfl
        have hb2 := hle2 _ _ hb2
        clear NT WE WN CN IN
        go_upto_region 12 with (first
          | (with_reducible show wpList _ _ _ ({ dst := _, op := Op.load 3 _, type := _, pos := _, after := _, guard := _ } :: _) _ _; refine wpList_load1_has h rfl 3 _ rfl rfl hb2 f0 Tryd.underlying3 rfl ?_)
          | (with_reducible show wpList _ _ _ ({ dst := _, op := Op.load 3 _, type := _, pos := _, after := _, guard := _ } :: _) _ _; refine wpList_load1_has h rfl 3 _ rfl rfl hb2 f1 Tryd.underlying3 rfl ?_)
          | ((with_reducible show wpList _ _ _ ({ dst := _, op := Op.box 45 _, type := _, pos := _, after := _, guard := _ } :: _) _ _); refine wpList_box_has h rfl 45 _ rfl ?_; clear h; intro bx w h hnx; try simp only [Act.put, List.setIfInBounds_toArray, List.set_cons_zero, List.set_cons_succ]))
        generalize hM3 : M2.upd bx _ = M3 at h
        have hle3 : M2.le M3 := by rw [← hM3]; exact Mm.le_upd' hnx _
        have hbx : M3 bx = some (.cells (errCells x0 x1 a (.iface 57 vn)) 45) := by rw [← hM3]; exact Mm.upd_same _ _ _
        clear hM3 hnx
        have hb2 := hle3 _ _ hb2
        have hT3 := hT2.le hle3
        have DE : Hid (∀ w', Has σ M3 w' → Calls Tryd.prog 14 #[.iface te ve] w' fun r w'' => r = .returned (.int .i64 ((k + 1 : Nat) : Int)) ∧ Has σ M3 w'') := fun w' h => hE ▸ deep_eq h E (k + 1) (by omega) (hN.chain.mono hle3).link c (hN.chain.last)
        have HN3 := HN.chain.mono hle3
        have DN : Hid (∀ w', Has σ M3 w' → Calls Tryd.prog 14 #[.iface 57 vn] w' fun r w'' => r = .returned (.int .i64 (((k + 1 : Nat) : Int) + 1)) ∧ Has σ M3 w'') := fun w' h => (deep_eq h _ (k + 1 + 1) (by omega) HN3.link c HN3.last).mono fun r w'' hr => ⟨hr.1.trans (congrArg (fun x => Ending.returned (Value.int .i64 x)) (by omega)), hr.2⟩
        have HX := HN3.cons (e := perrV bx) (by omega) (.inr (.inl ⟨bx, x0, x1, a, rfl, hbx⟩))
        have DX : Hid (∀ w', Has σ M3 w' → Calls Tryd.prog 14 #[perrV bx] w' fun r w'' => r = .returned (.int .i64 (((k + 1 : Nat) : Int) + 1 + 1)) ∧ Has σ M3 w'') := fun w' h => (deep_eq h _ (k + 1 + 1 + 1) (by omega) HX.link c HX.last).mono fun r w'' hr => ⟨hr.1.trans (congrArg (fun x => Ending.returned (Value.int .i64 x)) (by omega)), hr.2⟩
        have CX : Hid (∀ w', Has σ M3 w' → Calls Tryd.prog 12 #[perrV bx] w' fun r w'' => r = .returned (.int .i64 c) ∧ Has σ M3 w'') := fun w' h => HX.code h hT3
        have WX : Hid (∀ w', Has σ M3 w' → Calls Tryd.prog 9 #[perrV bx] w' fun r w'' => r = .returned (.tuple #[.int .i64 x0, .int .i64 x1, .bool true]) ∧ Has σ M3 w'') := fun w' h => where_eq h hT3 (fun _ => perrV bx) 0 bx ⟨fun i hi => absurd hi (by omega), ⟨fun d hd => by cases hd; rfl, fun hn => by cases hn⟩⟩ x0 x1 a _ hbx
        have CE3 : Hid (∀ w', Has σ M3 w' → Calls Tryd.prog 12 #[.iface te ve] w' fun r w'' => r = .returned (.int .i64 c) ∧ Has σ M3 w'') := fun w' h => CE.out _ _ hle3 h
        clear CE HX HN3 HN hN hE hb hbx hT3 hT2 hT1
        have HL := Lib.hid (Mm.le_trans hle (Mm.le_trans hle2 hle3))
        clear hle hle2 hle3
        have hd : (k + 1 : Nat) ≤ 41 := by omega
        clear h40
        generalize k + 1 = d at DE DN DX hd
        unfold perrV at DX CX WX
        go_wp2_with (first
          | (go_at_call_of 9 bx; refine (WX.out _ h).mono ?_; clear h; rintro r w ⟨rfl, h⟩)
          | (with_reducible show wpList _ _ _ ({ dst := _, op := Op.load 3 _, type := _, pos := _, after := _, guard := _ } :: _) _ _; refine wpList_load1_has h rfl 3 _ rfl rfl hb2 f0 Tryd.underlying3 rfl ?_)
          | (with_reducible show wpList _ _ _ ({ dst := _, op := Op.load 3 _, type := _, pos := _, after := _, guard := _ } :: _) _ _; refine wpList_load1_has h rfl 3 _ rfl rfl hb2 f1 Tryd.underlying3 rfl ?_)
          | (go_at_call_of 14 bx; refine (DX.out _ h).mono ?_; clear h; rintro r w ⟨rfl, h⟩)
          | (go_at_call_of 14 vn; refine (DN.out _ h).mono ?_; clear h; rintro r w ⟨rfl, h⟩)
          | (go_at_call_of 14 ve; refine (DE.out _ h).mono ?_; clear h; rintro r w ⟨rfl, h⟩)
          | (go_at_call_of 12 bx; refine (CX.out _ h).mono ?_; clear h; rintro r w ⟨rfl, h⟩)
          | (go_at_call_of 12 ve; refine (CE3.out _ h).mono ?_; clear h; rintro r w ⟨rfl, h⟩)
          | (go_at_call 7; refine (lives_eq h).mono ?_; clear h; rintro r w ⟨rfl, h⟩))
        go_ret
        exact ⟨rfl, h.le HL.out⟩
    · go_wp2_with (first
        | (go_at_call 7; refine (lives_eq h).mono ?_; clear h; rintro r w ⟨rfl, h⟩))
      go_ret
      exact ⟨rfl, h.le hle⟩
end Go.Proofs.YtillefeoponkjaaDoor
