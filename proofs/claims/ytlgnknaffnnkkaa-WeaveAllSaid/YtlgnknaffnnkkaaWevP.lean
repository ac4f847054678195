/- WeaveAlike: the law's walk. -/
import Derived.Test.YtlgnknaffnnkkaaWevO
namespace Go.Proofs.Ytlgnknaffnnkkaa
open Go.RowKit
set_option linter.unusedVariables false
set_option linter.unusedSimpArgs false
set_option linter.unnecessarySimpa false
theorem great_not {P : Nat → List PCall} {E : List PEnt} {n : Nat} (h : greatB P E n = false) : (∀ t, t < 8 → (P t).length ≤ 60) ∧ E.length ≤ n := by
  unfold greatB at h
  have h := of_decide_eq_false h
  refine ⟨fun t ht => ?_, ?_⟩
  · rcases Nat.lt_or_ge 60 (P t).length with h1 | h1
    · exact absurd (.inl ⟨t, List.mem_range.2 ht, h1⟩) h
    · exact h1
  · rcases Nat.lt_or_ge n E.length with h1 | h1
    · exact absurd (.inr (by omega)) h
    · exact h1
theorem zero_bool : (Try.prog.info? 4).bind (·.zero) = some (.bool false) := by kernel_rfl
set_option maxHeartbeats 2000000 in
theorem alikeAll_has {σ w : World} {M0 : Mm} (c : Nat → Int) (p : Nat → Value) (e : Value) (P : Nat → List PCall) (E : List PEnt) (hs : RdS M0 p e P E) (hE : E.length ≤ 2000) (hP : ∀ t, t < 8 → (P t).length ≤ 60) (l : Int) {bs bl b2 b3 bf : Nat} (hbs : M0 bs = some (.cells (scrRow c p e) 29)) (hbl : M0 bl = some (.cells #[.int .i64 l] 3)) (hb2 : M0 b2 = some (.cells (scrRow c p e) 29)) (hb3 : M0 b3 = some (.cells #[.int .i64 l] 3)) (hbf : M0 bf = none) (h : Has σ (M0.upd bf (.cells #[.bool true] 4)) w) :
    Calls Try.prog 15 #[.func (.func 11) #[] #[.pointer (some ⟨bf, 0, none⟩), .pointer (some ⟨b2, 0, none⟩), .pointer (some ⟨b3, 0, none⟩)], .pointer (some ⟨bs, 0, none⟩), .pointer (some ⟨bl, 0, none⟩)] w fun r w' => (∃ u, r = .returned u) ∧ ∃ K' : Mm, M0.le K' ∧ Has σ (K'.upd bf (.cells #[.bool true] 4)) w' := by
  have hP' : ∀ t, t < 8 → (P t).length ≤ 1000000 := fun t ht => by have := hP t ht; omega
  refine (allBody_has 11 #[.pointer (some ⟨bf, 0, none⟩), .pointer (some ⟨b2, 0, none⟩), .pointer (some ⟨b3, 0, none⟩)] (fun k K => K.upd bf (.cells #[.bool true] 4)) (fun K => K bf = none) (fun _ => true) 9 c p e P E hs (by omega) hP' l hbs hbl
    (fun k K hz => Mm.le_upd' hz _) (fun k K M hz hle => upd_X hz hle) (fun k hk K w p' e' hz hle h hR => ?_) (by kernel_rfl) (by omega) (by omega) (fun _ _ => rfl) (fun h => absurd h (by omega)) (K0 := M0) hbf (Mm.le_refl _) h).mono fun r w' ⟨h1, K', hz, hle, hH⟩ => ⟨h1, K', hle, hH⟩
  have lu := Mm.le_upd' hz (.cells #[.bool true] 4)
  have hlu := Mm.le_trans hle lu
  have hv := varE_le c l E k 2000 hE
  exact (alike1_has h c p p' e e' P (varP c l P k) E (varE c l E k) (hs.le hlu) (hR.le lu) (by omega) (by omega) hP' l (fun t ht => keepP_var c l P hk t ht) (keepE_var c l E hk) (nameOf k) (Mm.upd_same K bf _) (hlu _ _ hb2) (hlu _ _ hb3)).mono fun r w' ⟨h1, h2⟩ => ⟨h1, K, hz, Mm.le_refl _, h2⟩
set_option maxHeartbeats 4000000 in
theorem weaveAlike_has {σ w : World} {M : Mm} (h : Has σ M w) (c : Nat → Int) (p : Nat → Value) (e : Value) (P : Nat → List PCall) (E : List PEnt) (hs : RdS M p e P E) (l : Int) :
    Calls Try.prog 4 #[scrV c p e, .int .i64 l] w fun r w' => r = .returned (.bool true) ∧ Has σ M w' := by
  have GR : Hid (∀ (M' : Mm) (w : World), Has σ M' w → M.le M' → Calls Try.prog 5 #[scrV c p e, .int .i64 2000] w fun e w' => e = .returned (.bool (greatB P E 2000)) ∧ Has σ M' w') := fun M' w h hle => great_has h c p e P E (hs.le hle) 2000
  have LV : Hid (∀ (M' : Mm) (w : World), Has σ M' w → Calls Try.prog 6 #[] w fun r w' => r = .returned (.bool true) ∧ Has σ M' w') := fun M' w h => lives_has h
  have AL : Hid (∀ (M' : Mm) (w : World), Has σ M' w → Calls Try.prog 7 #[scrV c p e, .int .i64 l] w fun r w' => ∃ bs bl M2, r = .returned (.func (.func 15) #[] #[.pointer (some ⟨bs, 0, none⟩), .pointer (some ⟨bl, 0, none⟩)]) ∧ Has σ M2 w' ∧ M'.le M2 ∧ M2 bs = some (.cells (scrRow c p e) 29) ∧ M2 bl = some (.cells #[.int .i64 l] 3) ∧ M' bs = none ∧ M' bl = none) := fun M' w h => all_has h c p e l
  have AA : Hid (greatB P E 2000 = false → ∀ (M0 : Mm) (w : World) (bs bl b2 b3 bf : Nat), M.le M0 → M0 bs = some (.cells (scrRow c p e) 29) → M0 bl = some (.cells #[.int .i64 l] 3) → M0 b2 = some (.cells (scrRow c p e) 29) → M0 b3 = some (.cells #[.int .i64 l] 3) → M0 bf = none → Has σ (M0.upd bf (.cells #[.bool true] 4)) w →
      Calls Try.prog 15 #[.func (.func 11) #[] #[.pointer (some ⟨bf, 0, none⟩), .pointer (some ⟨b2, 0, none⟩), .pointer (some ⟨b3, 0, none⟩)], .pointer (some ⟨bs, 0, none⟩), .pointer (some ⟨bl, 0, none⟩)] w fun r w' => (∃ u, r = .returned u) ∧ ∃ K' : Mm, M0.le K' ∧ Has σ (K'.upd bf (.cells #[.bool true] 4)) w') := fun hg M0 w bs bl b2 b3 bf hle h1 h2 h3 h4 h5 h => by
    obtain ⟨g1, g2⟩ := great_not (n := 2000) hg
    exact alikeAll_has c p e P E (hs.le hle) g2 g1 l h1 h2 h3 h4 h5 h
  have sa := scr_all c p e
  have sz := scr_size c p e
  have dl : (#[.int .i64 l] : Array Value)[0]? = some (.int .i64 l) := rfl
  have dt : (#[.bool true] : Array Value)[0]? = some (.bool true) := rfl
  clear hs
  simp only [scrV] at GR AL ⊢
  generalize scrRow c p e = row at *
  generalize greatB P E 2000 = g at *
  go_enter Try.func4, Try.ntmps4
  go_upto_region 1 with (fail)
  obtain ⟨M2, hbx, hle2, hb2, hb3, hn2, hn3⟩ := h.box2 (.cells row 29) (.cells #[.int .i64 l] 3)
  generalize (w.alloc _).alloc _ = wx at hbx ⊢
  have hne_b2_b3 : w.heap.size ≠ w.heap.size + 1 := Nat.ne_of_lt (Nat.lt_succ_self _)
  generalize w.heap.size + 1 = b3 at hb3 hn3 hne_b2_b3 ⊢
  generalize w.heap.size = b2 at hb2 hn2 hne_b2_b3 ⊢
  clear h
  try clear w
  have h := hbx
  clear hbx
  obtain ⟨w, rfl⟩ : ∃ x : World, x = wx := ⟨_, rfl⟩
  have GRk := Lib.hid (fun (w : World) (h : Has σ M2 w) => GR.out M2 w h hle2)
  have LVk := Lib.hid (fun (w : World) (h : Has σ M2 w) => LV.out M2 w h)
  have ALk := Lib.hid (fun (w : World) (h : Has σ M2 w) => AL.out M2 w h)
  cases g
  · have AAf := Lib.hid (AA.out rfl)
    have hnf : ∀ (bs bl : Nat) (w : World), (binOp .eql 34 (.func (.func 15) #[] #[.pointer (some ⟨bs, 0, none⟩), .pointer (some ⟨bl, 0, none⟩)]) .nilFunc).run Try.prog w = .ok (.bool false) w := fun bs bl w => by kernel_rfl
    go_upto_region 7 with (first
      | ((with_reducible show wpList _ _ _ ({ dst := _, op := Op.load 29 _, type := _, pos := _, after := _, guard := _ } :: _) _ _); refine wpList_agg_has h rfl 29 _ rfl rfl hb2 sa sz Try.underlying29 rfl (by kernel_rfl) ?_; try simp only [Act.put, List.setIfInBounds_toArray, List.set_cons_zero, List.set_cons_succ])
      | (go_at_call 5; refine (GRk.out _ h).mono ?_; clear h; rintro r w ⟨rfl, h⟩)
      | (with_reducible show wpList _ _ _ ({ dst := _, op := Op.load 3 _, type := _, pos := _, after := _, guard := _ } :: _) _ _; refine wpList_load1_has h rfl 3 _ rfl rfl hb3 dl Try.underlying3 rfl ?_)
      | (go_at_call 7; refine (ALk.out _ h).mono ?_; clear h; rintro r w ⟨bs, bl, M3, rfl, h, hle3, hbs, hbl, _, _⟩)
      | ((with_reducible show wpList _ _ _ ({ dst := _, op := Op.alloc 4, type := _, pos := _, after := _, guard := _ } :: _) _ _); refine wpList_alloc_has h rfl 4 rfl _ zero_bool ?_; clear h; intro bf w h hnb; try simp only [Act.put, List.setIfInBounds_toArray, List.set_cons_zero, List.set_cons_succ])
      | (with_reducible show wpList _ _ _ ({ dst := _, op := Op.store 4 _ _, type := _, pos := _, after := _, guard := _ } :: _) _ _; refine wpList_store1_has h rfl 4 _ _ rfl rfl rfl (Mm.upd_same _ _ _) (Nat.lt_succ_self 0) rfl (by kernel_rfl) ?_; clear h; intro w h))
    rw [Mm.upd_upd] at h
    replace h : Has σ (M3.upd bf (.cells #[.bool true] 4)) w := h
    have AAk := Lib.hid (fun (w : World) => AAf.out M3 w bs bl b2 b3 bf (Mm.le_trans hle2 hle3) hbs hbl (hle3 _ _ hb2) (hle3 _ _ hb3) hnb)
    have LVk := Lib.hid (fun (M' : Mm) (w : World) (h : Has σ M' w) => LV.out M' w h)
    clear AA AAf hbs hbl ALk GRk hnf AL GR
    go_wp2_with (first
      | (go_at_call 15; refine (AAk.out _ h).mono ?_; clear h; rintro r w ⟨⟨u, rfl⟩, K', hleK, h⟩; have hbf := Mm.upd_same K' bf (.cells #[.bool true] 4))
      | (with_reducible show wpList _ _ _ ({ dst := _, op := Op.load 4 _, type := _, pos := _, after := _, guard := _ } :: _) _ _; refine wpList_load1_has h rfl 4 _ rfl rfl hbf dt Try.underlying4 rfl ?_)
      | (go_at_call 6; refine (LVk.out _ _ h).mono ?_; clear h; rintro r w ⟨rfl, h⟩))
    go_ret
    exact ⟨rfl, h.le (Mm.le_upd (Mm.le_trans hle2 (Mm.le_trans hle3 hleK)) (Mm.none_of (Mm.le_trans hle2 hle3) hnb) _)⟩
  · go_wp2_with (first
      | ((with_reducible show wpList _ _ _ ({ dst := _, op := Op.load 29 _, type := _, pos := _, after := _, guard := _ } :: _) _ _); refine wpList_agg_has h rfl 29 _ rfl rfl hb2 sa sz Try.underlying29 rfl (by kernel_rfl) ?_; try simp only [Act.put, List.setIfInBounds_toArray, List.set_cons_zero, List.set_cons_succ])
      | (go_at_call 5; refine (GRk.out _ h).mono ?_; clear h; rintro r w ⟨rfl, h⟩)
      | (go_at_call 6; refine (LVk.out _ h).mono ?_; clear h; rintro r w ⟨rfl, h⟩))
    go_ret
    exact ⟨rfl, h.le hle2⟩
end Go.Proofs.Ytlgnknaffnnkkaa
