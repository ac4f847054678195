/- Scripts: two that read alike are the same. -/
import Derived.Test.YtlgnknaffnnkkaaScrB
namespace Go.Proofs.Ytlgnknaffnnkkaa
open Go.RowKit
set_option linter.unusedVariables false
set_option linter.unusedSimpArgs false
set_option linter.unnecessarySimpa false

theorem same_ints (c : Nat → Int) : sames (ints .i64 14 c).toList (ints .i64 14 c).toList = true := sames_refl (fits_ints _ _ _)
set_option maxHeartbeats 4000000 in
theorem same_true {σ w : World} {M : Mm} (h : Has σ M w) (c : Nat → Int) (p p' : Nat → Value) (e e' : Value) (P : Nat → List PCall) (E : List PEnt) (hs : RdS M p e P E) (hs' : RdS M p' e' P E)
    (hE : E.length ≤ 1000000) (hP : ∀ t, t < 8 → (P t).length ≤ 1000000) :
    Calls Try.prog 9 #[scrV c p e, scrV c p' e'] w fun e w' => e = .returned (.bool true) ∧ Has σ M w' := by
  have CT : Hid (∀ (M2 : Mm) (w : World) (t : Nat), t < 8 → M.le M2 → Has σ M2 w → Calls Try.prog 17 #[p t, p' t] w fun e w' => e = .returned (.bool true) ∧ Has σ M2 w') := fun M2 w t ht hle h =>
    calls_true h _ _ _ ((hs.progs t ht).le hle) ((hs'.progs t ht).le hle) (hP t ht)
  have he1 := hs.ents
  have he2 := hs'.ents
  clear hs hs' hP
  obtain ⟨A, c1, rfl⟩ := he1.form
  obtain ⟨B, c2, rfl⟩ := he2.form
  obtain ⟨n, hl⟩ : ∃ n, E.length = n := ⟨_, rfl⟩
  rw [hl] at he1 he2 hE ⊢
  have HL := Lib.hid hl
  clear hl
  have GT := Lib.hid (fun (t : Nat) (ht : t < 8) => scr_prog c p (.slice A n c1) ht)
  have GT' := Lib.hid (fun (t : Nat) (ht : t < 8) => scr_prog c p' (.slice B n c2) ht)
  have g1 := scr_ents c p (.slice A n c1)
  have g2 := scr_ents c p' (.slice B n c2)
  have x1 := scr_conf c p (.slice A n c1)
  have x2 := scr_conf c p' (.slice B n c2)
  rw [← ints14_lit] at x1 x2
  have hz : (ints .i64 14 c).size = 14 := ints_size _ _ _
  have FI := Lib.hid (fits_ints .i64 14 c)
  have SI := Lib.hid (same_ints c)
  simp only [scrV]
  generalize scrRow c p (.slice A n c1) = r1 at *
  generalize scrRow c p' (.slice B n c2) = r2 at *
  generalize ints .i64 14 c = cf at *
  go_enter Try.func9, Try.ntmps9
  go_upto_region 1 with (fail)
  have ez : (w.alloc (.cells r1 29)).heap.size = w.heap.size + 1 := by simp
  have hbb := h.alloc (.cells r1 29)
  have hbc := hbb.alloc (.cells r2 29)
  have hf := hbb.fresh
  rw [ez] at hbc hf
  have hle : M.le ((M.upd w.heap.size (.cells r1 29)).upd (w.heap.size + 1) (.cells r2 29)) := Mm.le_trans (Mm.le_upd' h.fresh _) (Mm.le_upd' hf _)
  have hb1 := (Mm.le_upd' hf (.cells r2 29)) _ _ (Mm.upd_same M w.heap.size (.cells r1 29))
  have hb2 := Mm.upd_same (M.upd w.heap.size (.cells r1 29)) (w.heap.size + 1) (.cells r2 29)
  generalize ((M.upd w.heap.size (.cells r1 29)).upd (w.heap.size + 1) (.cells r2 29)) = M2 at hbc hle hb1 hb2
  generalize (w.alloc (.cells r1 29)).alloc (.cells r2 29) = w2 at hbc ⊢
  clear ez hf
  generalize w.heap.size + 1 = q2 at hb2 ⊢
  generalize w.heap.size = q1 at hb1 ⊢
  clear hbb h w
  obtain ⟨w, rfl⟩ : ∃ x : World, x = w2 := ⟨_, rfl⟩
  have h := hbc
  clear hbc
  replace he1 := he1.le hle
  replace he2 := he2.le hle
  go_upto_region 3 with (first
    | (with_reducible show wpList _ _ _ ({ dst := _, op := Op.load 24 _, type := _, pos := _, after := _, guard := _ } :: _) _ _; refine wpList_agg_has h rfl 24 _ rfl rfl hb1 x1 hz Try.underlying24 rfl (by kernel_rfl) ?_; try simp only [Act.put, List.setIfInBounds_toArray, List.set_cons_zero, List.set_cons_succ])
    | (with_reducible show wpList _ _ _ ({ dst := _, op := Op.load 24 _, type := _, pos := _, after := _, guard := _ } :: _) _ _; refine wpList_agg_has h rfl 24 _ rfl rfl hb2 x2 hz Try.underlying24 rfl (by kernel_rfl) ?_; try simp only [Act.put, List.setIfInBounds_toArray, List.set_cons_zero, List.set_cons_succ])
    | (with_reducible show wpList _ _ _ ({ dst := _, op := Op.load 27 _, type := _, pos := _, after := _, guard := _ } :: _) _ _; refine wpList_load1_has h rfl 27 _ rfl rfl hb1 g1 Try.underlying27 rfl ?_)
    | (with_reducible show wpList _ _ _ ({ dst := _, op := Op.load 27 _, type := _, pos := _, after := _, guard := _ } :: _) _ _; refine wpList_load1_has h rfl 27 _ rfl rfl hb2 g2 Try.underlying27 rfl ?_)
    | (refine wpList_neq_flat rfl 24 _ _ _ rfl rfl rfl 10 (by omega) (ks := List.replicate 14 (some (some .i64))) (by kernel_rfl) rfl (by kernel_rfl) Try.underlying24 rfl (by kernel_rfl) FI.out FI.out ?_; rw [SI.out]; try simp only [Act.put, List.setIfInBounds_toArray, List.set_cons_zero, List.set_cons_succ]))
  clear x1 x2
  go_wp2
  go_loopw [5] (fun i wr => ∃ k : Nat, k ≤ n ∧ i = .int .i64 k ∧ Has σ M2 wr) (fun i _ => n - (intOf i).toNat)
  case atStart => exact ⟨0, by omega, rfl, h⟩
  case round =>
    clear h w
    obtain ⟨w, rfl⟩ : ∃ x : World, x = wr := ⟨_, rfl⟩
    obtain ⟨k, hk, rfl, h⟩ := hrel
    by_cases hlt : k < n
    · obtain ⟨x, hx⟩ : ∃ x, E[k]? = some x := ⟨_, List.getElem?_eq_getElem (by rw [HL.out]; exact hlt)⟩
      obtain ⟨b1, o1, c1, cs1, t1, f1, e1, hM1, hx1⟩ := he1.elem encE_len hlt hx
      obtain ⟨b2, o2, c2, cs2, t2, f2, e2, hM2, hx2⟩ := he2.elem encE_len hlt hx
      cases e1
      cases e2
      have hc1 := extract_of hx1 (encE_len x)
      have hc2 := extract_of hx2 (encE_len x)
      have SC := Lib.hid (same_ent x)
      have FT := Lib.hid (fits_ent x)
      generalize (encE x).toArray = row at *
      have hz2 : row.size = 2 := by
        have := fits_length FT.out
        simpa [entKs] using this
      clear hx1 hx2 hx
      go_upto_region 6 with (first
        | (with_reducible show wpList _ _ _ ({ dst := _, op := Op.load 27 _, type := _, pos := _, after := _, guard := _ } :: _) _ _; refine wpList_load1_has h rfl 27 _ rfl rfl hb1 g1 Try.underlying27 rfl ?_))
      refine wp_region_class (Has σ M2) (by kernel_rfl) (by kernel_rfl) h.drew ?_
      clear h
      repeat (first
        | go_big_quiet_skip
        | (go_big_quiet_want; first
          | (refine quiet_load_has 27 _ rfl rfl hb1 g1 Try.underlying27 rfl ?_; simp only [Act.put, List.setIfInBounds_toArray, List.set_cons_zero, List.set_cons_succ]; go_big_quiet_on)
          | (refine quiet_load_has 27 _ rfl rfl hb2 g2 Try.underlying27 rfl ?_; simp only [Act.put, List.setIfInBounds_toArray, List.set_cons_zero, List.set_cons_succ]; go_big_quiet_on)
          | (refine quiet_agg_has 43 _ rfl rfl hM1 hc1 hz2 Try.underlying43 rfl (by kernel_rfl) ?_; simp only [Act.put, List.setIfInBounds_toArray, List.set_cons_zero, List.set_cons_succ]; go_big_quiet_on)
          | (refine quiet_agg_has 43 _ rfl rfl hM2 hc2 hz2 Try.underlying43 rfl (by kernel_rfl) ?_; simp only [Act.put, List.setIfInBounds_toArray, List.set_cons_zero, List.set_cons_succ]; go_big_quiet_on)
          | (refine quiet_neq_flat 43 _ _ _ rfl rfl rfl 10 (by omega) (ks := entKs) (by kernel_rfl) rfl (by kernel_rfl) Try.underlying43 rfl (by kernel_rfl) FT.out FT.out ?_; rw [SC.out]; simp only [Act.put, List.setIfInBounds_toArray, List.set_cons_zero, List.set_cons_succ]; go_big_quiet_on)
          | (go_big_quiet_op; first | go_big_quiet_on | go_big_quiet_call (first | with_reducible exact fun _ => rfl))))
      refine wpQuiet_nil ?_
      try clear w
      intro w h
      go_wp2
      go_roundw
      case rel => exact ⟨k + 1, by omega, by go_num, h⟩
      case measure => simp [intOf]; omega
    · go_upto_region 9 with (first
        | (with_reducible show wpList _ _ _ ({ dst := _, op := Op.load 27 _, type := _, pos := _, after := _, guard := _ } :: _) _ _; refine wpList_load1_has h rfl 27 _ rfl rfl hb1 g1 Try.underlying27 rfl ?_))
      go_wp2
      clear hk hlt
      go_loopw [6] (fun i wr => ∃ k : Nat, k ≤ 8 ∧ i = .int .i64 k ∧ Has σ M2 wr) (fun i _ => 8 - (intOf i).toNat)
      case atStart => exact ⟨0, by omega, rfl, h⟩
      case round =>
        clear h w
        obtain ⟨w, rfl⟩ : ∃ x : World, x = wr := ⟨_, rfl⟩
        obtain ⟨k, hk, rfl, h⟩ := hrel
        by_cases hlt : k < 8
        · have a1 := GT.out k hlt
          have a2 := GT'.out k hlt
          have CK := Lib.hid (fun (w : World) (h : Has σ M2 w) => CT.out M2 w k hlt hle h)
          generalize p k = v1 at *
          generalize p' k = v2 at *
          go_upto_region 11 with (fail)
          refine wp_region_class (Has σ M2) (by kernel_rfl) (by kernel_rfl) h.drew ?_
          clear h
          repeat (first
            | go_big_quiet_skip
            | (go_big_quiet_want; first
              | (refine quiet_load_has 25 _ rfl rfl hb1 a1 Try.underlying25 rfl ?_; simp only [Act.put, List.setIfInBounds_toArray, List.set_cons_zero, List.set_cons_succ]; go_big_quiet_on)
              | (refine quiet_load_has 25 _ rfl rfl hb2 a2 Try.underlying25 rfl ?_; simp only [Act.put, List.setIfInBounds_toArray, List.set_cons_zero, List.set_cons_succ]; go_big_quiet_on)
              | (go_big_quiet_op; first | go_big_quiet_on | go_big_quiet_call (first | with_reducible exact fun _ => rfl | with_reducible exact CK.out _))))
          refine wpQuiet_nil ?_
          try clear w
          intro w h
          go_wp2
          go_roundw
          case rel => exact ⟨k + 1, by omega, by go_num, h⟩
          case measure => simp [intOf]; omega
        · go_wp2
          go_ret
          exact ⟨rfl, h.le hle⟩
end Go.Proofs.Ytlgnknaffnnkkaa
