/- Weaver: each, parted. -/
import Derived.Test.YtlgnknaffnnkkaaWevA
namespace Go.Proofs.Ytlgnknaffnnkkaa
open Go.RowKit
set_option linter.unusedVariables false
set_option linter.unusedSimpArgs false
set_option linter.unnecessarySimpa false

theorem RdS.one {M : Mm} {p : Nat → Value} {e : Value} {P : Nat → List PCall} {E : List PEnt} (h : RdS M p e P E) : ∀ t, t < 8 → (p t).oneCell' = true := fun t ht => by
  obtain ⟨A, c, hv⟩ := (h.progs t ht).form
  rw [hv]
  rfl
theorem Rd.one {M : Mm} {sz n : Nat} {v : Value} {xs : List Value} (h : Rd M sz v n xs) : v.oneCell' = true := by obtain ⟨A, c, rfl⟩ := h.form; rfl
/-- A script of this configuration was made: it reads as these programs and entries. -/
def Made (σ : World) (M0 M : Mm) (w : World) (c : Nat → Int) (P : Nat → List PCall) (E : List PEnt) (r : Ending) : Prop :=
  ∃ p e M', r = .returned (scrV c p e) ∧ Has σ M' w ∧ M.le M' ∧ ∀ N, (∀ c x, M' c = some x → (M c = none ∨ M0 c ≠ none) → N c = some x) → RdS N p e P E
theorem Mm.le_in {M0 M M' N : Mm} (h : M0.le M') (hN : ∀ c x, M' c = some x → (M c = none ∨ M0 c ≠ none) → N c = some x) : M0.le N := fun c x hc => hN c x (h c x hc) (.inr (by rw [hc]; exact fun h => by cases h))
theorem Own.box {M0 M : Mm} {e : TypeId} {sz n b : Nat} {v : Value} {xs : List Value} {o : Obj} (h : Own M0 M e sz v n xs) (hb : M b = none) : Own (M0.upd b o) (M.upd b o) e sz v n xs := by
  obtain ⟨hl, h | ⟨g, cap, cur, hv, hg, hh, r⟩⟩ := h
  · exact ⟨hl, .inl h⟩
  · have hne : g ≠ b := fun e => by subst e; rw [hb] at hh; cases hh
    exact ⟨hl, .inr ⟨g, cap, cur, hv, by rw [Mm.upd_ne hne]; exact hg, by rw [Mm.upd_ne hne]; exact hh, r⟩⟩
theorem zero_ent : (Try.prog.info? 43).bind (·.zero) = some (.agg #[.int .i64 0, .int .i64 0]) := by kernel_rfl
theorem ent_all (a b : Int) : (#[.int .i64 a, .int .i64 b] : Array Value).extract 0 (0 + 2) = #[.int .i64 a, .int .i64 b] := rfl

/-- Each Pick of a thread above so often. -/
def manyOf (c : Nat → Int) (l : Int) (m : Nat) (x : PEnt) : Nat := if aboveB c x.1 l && x.2 == 0 then m else 1
def eachE (c : Nat → Int) (l : Int) (m : Nat) (E : List PEnt) : List PEnt := E.flatMap fun x => List.replicate (manyOf c l m x) x
theorem eachE_snoc (c : Nat → Int) (l : Int) (m : Nat) (E : List PEnt) (x : PEnt) : eachE c l m (E ++ [x]) = eachE c l m E ++ List.replicate (manyOf c l m x) x := by simp [eachE]
theorem eachE_le (c : Nat → Int) (l : Int) {m : Nat} (hm : m ≤ 2) : ∀ E : List PEnt, (eachE c l m E).length ≤ 2 * E.length
  | [] => by simp [eachE]
  | x :: E => by
    have ih := eachE_le c l hm E
    have h1 : manyOf c l m x ≤ 2 := by unfold manyOf; split <;> omega
    simp only [eachE, List.flatMap_cons, List.length_append, List.length_replicate, List.length_cons] at ih ⊢
    omega

set_option maxHeartbeats 1500000 in
theorem each_has {σ w : World} {M0 M : Mm} (h : Has σ M w) (hle0 : M0.le M) (c : Nat → Int) (p : Nat → Value) (e : Value) (P : Nat → List PCall) (E : List PEnt) (hs0 : RdS M0 p e P E) (hE : E.length ≤ 1000000) (l : Int) (m : Nat) (hm : m ≤ 2) :
    Calls Try.prog 24 #[weaV c p e l, .int .i64 m] w fun r w' => Made σ M0 M w' c P (eachE c l m E) r := by
  have hs := hs0.le hle0
  have RP0 : Hid (∀ t, t < 8 → Rd M0 7 (p t) (P t).length ((P t).flatMap encK)) := hs0.progs
  clear hs0
  have AB : Hid (∀ (M : Mm) (w : World) (t : Int), Has σ M w → Calls Try.prog 39 #[weaV c p e l, .int .i64 t] w fun e w' => e = .returned (.bool (aboveB c t l)) ∧ Has σ M w') := fun M w t h => weaAbove_has h c p e t l
  have EN : Hid (∀ (M : Mm) (w : World) (v : Value), Has σ M w → v.oneCell' = true → Calls Try.prog 27 #[weaV c p e l, v] w fun r w' => r = .returned (scrV c p v) ∧ Has σ M w') := fun M w v h hv => entries_has h c p e l v hs.one hs.ents.one hv
  have RP : Hid (∀ t, t < 8 → Rd M 7 (p t) (P t).length ((P t).flatMap encK)) := hs.progs
  have OP := Lib.hid hs.one
  have he := hs.ents
  clear hs
  obtain ⟨A, cap, rfl⟩ := he.form
  obtain ⟨n, hl⟩ : ∃ n, E.length = n := ⟨_, rfl⟩
  rw [hl] at he hE AB EN ⊢
  have HL := Lib.hid hl
  clear hl
  have x1 := wea_all c p (.slice A n cap) l
  have g1 := wea_ents c p (.slice A n cap) l
  have hz := wea_size c p (.slice A n cap) l
  simp only [weaV] at AB EN ⊢
  generalize weaRow c p (.slice A n cap) l = row at *
  go_enter Try.func24, Try.ntmps24
  go_upto_region 1 with (fail)
  obtain ⟨M2, hbx, hle2, hb2, hb4, hn2, hn4⟩ := h.box2 (.cells row 46) (.cells #[.int .i64 0, .int .i64 0, .int .i64 0, .int .i64 0, .int .i64 0, .int .i64 0, .int .i64 0, .int .i64 0, .int .i64 0, .int .i64 0, .int .i64 0, .int .i64 0, .int .i64 0, .int .i64 0, .slice none 0 0, .slice none 0 0, .slice none 0 0, .slice none 0 0, .slice none 0 0, .slice none 0 0, .slice none 0 0, .slice none 0 0, .slice none 0 0] 29)
  generalize (w.alloc _).alloc _ = wx at hbx ⊢
  have hne_b2_b4 : w.heap.size ≠ w.heap.size + 1 := Nat.ne_of_lt (Nat.lt_succ_self _)
  generalize w.heap.size + 1 = b4 at hb4 hn4 hne_b2_b4 ⊢
  generalize w.heap.size = b2 at hb2 hn2 hne_b2_b4 ⊢
  clear h
  try clear w
  have h := hbx
  clear hbx
  obtain ⟨w, rfl⟩ : ∃ x : World, x = wx := ⟨_, rfl⟩
  have hb4 : M2 b4 = some (.cells (scrRow (fun _ => 0) noP nilS) 29) := hb4
  replace he := he.le hle2
  go_wp2_with (first
    | (with_reducible show wpList _ _ _ ({ dst := _, op := Op.load 27 _, type := _, pos := _, after := _, guard := _ } :: _) _ _; refine wpList_load1_has h rfl 27 _ rfl rfl hb2 g1 Try.underlying27 rfl ?_))
  go_loopw [5, 13] (fun v i wr => ∃ k : Nat, k ≤ n ∧ i = .int .i64 k ∧ Acc σ M2 wr 43 2 v (eachE c l m (E.take k)).length ((eachE c l m (E.take k)).flatMap encE)) (fun _ i _ => n - (intOf i).toNat)
  case atStart => exact ⟨0, by omega, rfl, by simpa [eachE] using Acc.nil h _ _⟩
  case round =>
    clear h w
    obtain ⟨w, rfl⟩ : ∃ x : World, x = wr := ⟨_, rfl⟩
    obtain ⟨k, hk, rfl, M', h, hle, hown⟩ := hrel
    have hb2' := hle _ _ hb2
    obtain ⟨v, hv, hown⟩ : ∃ v, v = _ ∧ Own M2 M' 43 2 v _ _ := ⟨_, rfl, hown⟩
    subst hv
    by_cases hlt : k < n
    · obtain ⟨⟨x1', x2'⟩, hx⟩ : ∃ x, E[k]? = some x := ⟨_, List.getElem?_eq_getElem (by rw [HL.out]; exact hlt)⟩
      have D : Hid (eachE c l m (E.take (k + 1)) = eachE c l m (E.take k) ++ List.replicate (manyOf c l m (x1', x2')) (x1', x2')) := by
        show _ = _
        rw [take_snoc'' hx, eachE_snoc]
      have hlen : (eachE c l m (E.take k)).length ≤ 2000000 := by
        have h1 := eachE_le c l hm (E.take k)
        have h2 := List.length_take_le k E
        omega
      obtain ⟨b1, o1, c1, cs1, t1, f1, e1, hM1, hx1⟩ := he.elem encE_len hlt hx
      cases e1
      have hM1' := hle _ _ hM1
      have hc1 : cs1.extract (o1 + k * 2) (o1 + k * 2 + 2) = #[.int .i64 x1', .int .i64 x2'] := extract_of hx1 rfl
      have e2 : (#[.int .i64 0, .int .i64 0] : Array Value).size = 2 := rfl
      have e2' : ((#[.int .i64 x1', .int .i64 x2'] : Array Value)).size = 2 := rfl
      have d0 : ((#[.int .i64 x1', .int .i64 x2'] : Array Value))[0]? = some (.int .i64 x1') := rfl
      have d1 : ((#[.int .i64 x1', .int .i64 x2'] : Array Value))[1]? = some (.int .i64 x2') := rfl
      have MO : Hid (manyOf c l m (x1', x2') = if aboveB c x1' l && x2' == 0 then m else 1) := rfl
      clear hx1 hx hM1
      go_upto_region 5 with (first
        | ((with_reducible show wpList _ _ _ ({ dst := _, op := Op.load 43 _, type := _, pos := _, after := _, guard := _ } :: _) _ _); refine wpList_agg_has h rfl 43 _ rfl rfl hM1' hc1 rfl Try.underlying43 rfl (by kernel_rfl) ?_; try simp only [Act.put, List.setIfInBounds_toArray, List.set_cons_zero, List.set_cons_succ])
        | ((with_reducible show wpList _ _ _ ({ dst := _, op := Op.alloc 43, type := _, pos := _, after := _, guard := _ } :: _) _ _); refine wpList_alloc_has h rfl 43 rfl _ zero_ent ?_; clear h; intro b7 w h hn7; try simp only [Act.put, List.setIfInBounds_toArray, List.set_cons_zero, List.set_cons_succ])
        | ((with_reducible show wpList _ _ _ ({ dst := _, op := Op.store 43 _ _, type := _, pos := _, after := _, guard := _ } :: _) _ _); refine wpList_storeAll_has (cells := #[.int .i64 x1', .int .i64 x2']) h rfl 43 _ _ rfl rfl rfl (Mm.upd_same _ _ _) rfl (e2.trans e2'.symm) rfl (by rw [e2']; kernel_rfl) (by rfl) ?_; clear h; intro w h))
      clear hc1 hM1'
      rw [Mm.upd_upd] at h
      have hb7' := Mm.upd_same M' b7 ((.cells #[.int .i64 x1', .int .i64 x2'] 43))
      have hb2'' : (M'.upd b7 ((.cells #[.int .i64 x1', .int .i64 x2'] 43))) b2 = some (.cells row 46) := by rw [Mm.upd_ne (Mm.ne_of hn7 hb2')]; exact hb2'
      have hn7M := Mm.none_of hle hn7
      have hacc0 : ∀ w, Has σ (M'.upd b7 ((.cells #[.int .i64 x1', .int .i64 x2'] 43))) w → Acc σ (M2.upd b7 ((.cells #[.int .i64 x1', .int .i64 x2'] 43))) w 43 2 v (eachE c l m (E.take k)).length ((eachE c l m (E.take k)).flatMap encE) := fun w h => ⟨_, h, fun b o hb => by
        by_cases e : b = b7
        · subst e; rw [Mm.upd_same] at hb ⊢; exact hb
        · rw [Mm.upd_ne e] at hb ⊢; exact hle _ _ hb, hown.box hn7⟩
      have ABk := Lib.hid (fun (w : World) (h : Has σ (M'.upd b7 ((.cells #[.int .i64 x1', .int .i64 x2'] 43))) w) => AB.out _ w x1' h)
      generalize aboveB c x1' l = bk at ABk MO
      generalize manyOf c l m (x1', x2') = q at D MO
      replace hacc0 := Lib.hid hacc0
      clear hown hle
      cases bk
      · obtain rfl : q = 1 := by rw [MO.out]; rfl
        clear MO
        go_wp2_with (first
          | ((with_reducible show wpList _ _ _ ({ dst := _, op := Op.load 46 _, type := _, pos := _, after := _, guard := _ } :: _) _ _); refine wpList_agg_has h rfl 46 _ rfl rfl hb2'' x1 hz Try.underlying46 rfl (by kernel_rfl) ?_; try simp only [Act.put, List.setIfInBounds_toArray, List.set_cons_zero, List.set_cons_succ])
          | (with_reducible show wpList _ _ _ ({ dst := _, op := Op.load 3 _, type := _, pos := _, after := _, guard := _ } :: _) _ _; refine wpList_load1_has h rfl 3 _ rfl rfl hb7' d0 Try.underlying3 rfl ?_)
          | (with_reducible show wpList _ _ _ ({ dst := _, op := Op.load 3 _, type := _, pos := _, after := _, guard := _ } :: _) _ _; refine wpList_load1_has h rfl 3 _ rfl rfl hb7' d1 Try.underlying3 rfl ?_)
          | (go_at_call 39; refine (ABk.out _ h).mono ?_; clear h; rintro e w ⟨rfl, h⟩))
        replace hacc0 := hacc0.out
        go_loopw [5, 28] (fun v i wr => ∃ j : Nat, j ≤ 1 ∧ i = .int .i64 j ∧ Acc σ (M2.upd b7 (.cells #[.int .i64 x1', .int .i64 x2'] 43)) wr 43 2 v ((eachE c l m (E.take k)).length + j) ((eachE c l m (E.take k)).flatMap encE ++ (List.replicate j (x1', x2')).flatMap encE)) (fun _ i _ => 1 - (intOf i).toNat)
        case atStart => exact ⟨0, by omega, rfl, by simpa using hacc0 w h⟩
        case round =>
          clear h w
          obtain ⟨w, rfl⟩ : ∃ x : World, x = wr := ⟨_, rfl⟩
          obtain ⟨j, hj, rfl, M4, h, hle4, hown4⟩ := hrel
          by_cases hjq : j < 1
          · have hb7'' : M4 b7 = some ((.cells #[.int .i64 x1', .int .i64 x2'] 43)) := hle4 _ _ (Mm.upd_same _ _ _)
            have xe := ent_all x1' x2'
            go_wp2_with (first
              | ((with_reducible show wpList _ _ _ ({ dst := _, op := Op.load 43 _, type := _, pos := _, after := _, guard := _ } :: _) _ _); refine wpList_agg_has h rfl 43 _ rfl rfl hb7'' xe rfl Try.underlying43 rfl (by kernel_rfl) ?_; try simp only [Act.put, List.setIfInBounds_toArray, List.set_cons_zero, List.set_cons_succ])
              | (at_builtin; refine wpList_append_lit h hle4 rfl _ _ _ rfl rfl Try.underlying27 info_ent rfl (by omega) rfl hown4 rfl rfl rfl (by omega) (by omega) ?_; clear h hle4 hown4; intro v w hacc))
            go_roundw
            case rel => exact ⟨j + 1, by omega, by go_num, by rw [List.replicate_succ', List.flatMap_append, ← List.append_assoc]; simpa [encE, Nat.add_assoc] using hacc⟩
            case measure => simp [intOf]; omega
          · obtain rfl : j = 1 := by omega
            go_wp2
            go_roundw
            case rel => exact ⟨k + 1, by omega, by go_num, by rw [D.out, List.length_append, List.flatMap_append, List.length_replicate]; exact ⟨M4, h, Mm.le_trans (Mm.le_upd' hn7M _) hle4, hown4.base fun b hb => Mm.none_of (Mm.le_upd' hn7M _) hb⟩⟩
            case measure => simp [intOf]; omega
      · cases h0 : (x2' == 0)
        · have h0' : ¬ x2' = 0 := by simpa using h0
          obtain rfl : q = 1 := by rw [MO.out, h0]; rfl
          clear MO h0
          go_wp2_with (first
            | ((with_reducible show wpList _ _ _ ({ dst := _, op := Op.load 46 _, type := _, pos := _, after := _, guard := _ } :: _) _ _); refine wpList_agg_has h rfl 46 _ rfl rfl hb2'' x1 hz Try.underlying46 rfl (by kernel_rfl) ?_; try simp only [Act.put, List.setIfInBounds_toArray, List.set_cons_zero, List.set_cons_succ])
            | (with_reducible show wpList _ _ _ ({ dst := _, op := Op.load 3 _, type := _, pos := _, after := _, guard := _ } :: _) _ _; refine wpList_load1_has h rfl 3 _ rfl rfl hb7' d0 Try.underlying3 rfl ?_)
            | (with_reducible show wpList _ _ _ ({ dst := _, op := Op.load 3 _, type := _, pos := _, after := _, guard := _ } :: _) _ _; refine wpList_load1_has h rfl 3 _ rfl rfl hb7' d1 Try.underlying3 rfl ?_)
            | (go_at_call 39; refine (ABk.out _ h).mono ?_; clear h; rintro e w ⟨rfl, h⟩))
          replace hacc0 := hacc0.out
          go_loopw [5, 28] (fun v i wr => ∃ j : Nat, j ≤ 1 ∧ i = .int .i64 j ∧ Acc σ (M2.upd b7 (.cells #[.int .i64 x1', .int .i64 x2'] 43)) wr 43 2 v ((eachE c l m (E.take k)).length + j) ((eachE c l m (E.take k)).flatMap encE ++ (List.replicate j (x1', x2')).flatMap encE)) (fun _ i _ => 1 - (intOf i).toNat)
          case atStart => exact ⟨0, by omega, rfl, by simpa using hacc0 w h⟩
          case round =>
            clear h w
            obtain ⟨w, rfl⟩ : ∃ x : World, x = wr := ⟨_, rfl⟩
            obtain ⟨j, hj, rfl, M4, h, hle4, hown4⟩ := hrel
            by_cases hjq : j < 1
            · have hb7'' : M4 b7 = some ((.cells #[.int .i64 x1', .int .i64 x2'] 43)) := hle4 _ _ (Mm.upd_same _ _ _)
              have xe := ent_all x1' x2'
              go_wp2_with (first
                | ((with_reducible show wpList _ _ _ ({ dst := _, op := Op.load 43 _, type := _, pos := _, after := _, guard := _ } :: _) _ _); refine wpList_agg_has h rfl 43 _ rfl rfl hb7'' xe rfl Try.underlying43 rfl (by kernel_rfl) ?_; try simp only [Act.put, List.setIfInBounds_toArray, List.set_cons_zero, List.set_cons_succ])
                | (at_builtin; refine wpList_append_lit h hle4 rfl _ _ _ rfl rfl Try.underlying27 info_ent rfl (by omega) rfl hown4 rfl rfl rfl (by omega) (by omega) ?_; clear h hle4 hown4; intro v w hacc))
              go_roundw
              case rel => exact ⟨j + 1, by omega, by go_num, by rw [List.replicate_succ', List.flatMap_append, ← List.append_assoc]; simpa [encE, Nat.add_assoc] using hacc⟩
              case measure => simp [intOf]; omega
            · obtain rfl : j = 1 := by omega
              go_wp2
              go_roundw
              case rel => exact ⟨k + 1, by omega, by go_num, by rw [D.out, List.length_append, List.flatMap_append, List.length_replicate]; exact ⟨M4, h, Mm.le_trans (Mm.le_upd' hn7M _) hle4, hown4.base fun b hb => Mm.none_of (Mm.le_upd' hn7M _) hb⟩⟩
              case measure => simp [intOf]; omega
        · have h0' : x2' = 0 := by simpa using h0
          obtain rfl : m = q := by rw [MO.out, h0]; rfl
          clear MO h0
          go_wp2_with (first
            | ((with_reducible show wpList _ _ _ ({ dst := _, op := Op.load 46 _, type := _, pos := _, after := _, guard := _ } :: _) _ _); refine wpList_agg_has h rfl 46 _ rfl rfl hb2'' x1 hz Try.underlying46 rfl (by kernel_rfl) ?_; try simp only [Act.put, List.setIfInBounds_toArray, List.set_cons_zero, List.set_cons_succ])
            | (with_reducible show wpList _ _ _ ({ dst := _, op := Op.load 3 _, type := _, pos := _, after := _, guard := _ } :: _) _ _; refine wpList_load1_has h rfl 3 _ rfl rfl hb7' d0 Try.underlying3 rfl ?_)
            | (with_reducible show wpList _ _ _ ({ dst := _, op := Op.load 3 _, type := _, pos := _, after := _, guard := _ } :: _) _ _; refine wpList_load1_has h rfl 3 _ rfl rfl hb7' d1 Try.underlying3 rfl ?_)
            | (go_at_call 39; refine (ABk.out _ h).mono ?_; clear h; rintro e w ⟨rfl, h⟩))
          clear h0'
          replace hacc0 := hacc0.out
          go_loopw [5, 28] (fun v i wr => ∃ j : Nat, j ≤ m ∧ i = .int .i64 j ∧ Acc σ (M2.upd b7 (.cells #[.int .i64 x1', .int .i64 x2'] 43)) wr 43 2 v ((eachE c l m (E.take k)).length + j) ((eachE c l m (E.take k)).flatMap encE ++ (List.replicate j (x1', x2')).flatMap encE)) (fun _ i _ => m - (intOf i).toNat)
          case atStart => exact ⟨0, by omega, rfl, by simpa using hacc0 w h⟩
          case round =>
            clear h w
            obtain ⟨w, rfl⟩ : ∃ x : World, x = wr := ⟨_, rfl⟩
            obtain ⟨j, hj, rfl, M4, h, hle4, hown4⟩ := hrel
            by_cases hjq : j < m
            · have hb7'' : M4 b7 = some ((.cells #[.int .i64 x1', .int .i64 x2'] 43)) := hle4 _ _ (Mm.upd_same _ _ _)
              have xe := ent_all x1' x2'
              go_wp2_with (first
                | ((with_reducible show wpList _ _ _ ({ dst := _, op := Op.load 43 _, type := _, pos := _, after := _, guard := _ } :: _) _ _); refine wpList_agg_has h rfl 43 _ rfl rfl hb7'' xe rfl Try.underlying43 rfl (by kernel_rfl) ?_; try simp only [Act.put, List.setIfInBounds_toArray, List.set_cons_zero, List.set_cons_succ])
                | (at_builtin; refine wpList_append_lit h hle4 rfl _ _ _ rfl rfl Try.underlying27 info_ent rfl (by omega) rfl hown4 rfl rfl rfl (by omega) (by omega) ?_; clear h hle4 hown4; intro v w hacc))
              go_roundw
              case rel => exact ⟨j + 1, by omega, by go_num, by rw [List.replicate_succ', List.flatMap_append, ← List.append_assoc]; simpa [encE, Nat.add_assoc] using hacc⟩
              case measure => simp [intOf]; omega
            · obtain rfl : j = m := by omega
              go_wp2
              go_roundw
              case rel => exact ⟨k + 1, by omega, by go_num, by rw [D.out, List.length_append, List.flatMap_append, List.length_replicate]; exact ⟨M4, h, Mm.le_trans (Mm.le_upd' hn7M _) hle4, hown4.base fun b hb => Mm.none_of (Mm.le_upd' hn7M _) hb⟩⟩
              case measure => simp [intOf]; omega
    · obtain rfl : k = n := by omega
      have EA : E.take k = E := List.take_of_length_le (by rw [HL.out]; exact Nat.le_refl _)
      rw [EA] at hown
      have hb4' := hle _ _ hb4
      have ov := hown.one
      have sz' := scr_size c p v
      have sz0 := scr_size (fun _ => 0) noP nilS
      have one' := scr_one c p v OP.out ov
      have EV := Lib.hid (fun (w : World) (h : Has σ M' w) => EN.out M' w v h ov)
      simp only [scrV] at EV
      have SV : Hid (scrV c p v = .agg (scrRow c p v)) := rfl
      generalize scrRow c p v = r2 at EV sz' one' SV
      go_wp2_with (first
        | ((with_reducible show wpList _ _ _ ({ dst := _, op := Op.load 46 _, type := _, pos := _, after := _, guard := _ } :: _) _ _); refine wpList_agg_has h rfl 46 _ rfl rfl hb2' x1 hz Try.underlying46 rfl (by kernel_rfl) ?_; try simp only [Act.put, List.setIfInBounds_toArray, List.set_cons_zero, List.set_cons_succ])
        | (go_at_call 27; refine (EV.out _ h).mono ?_; clear h; rintro e w ⟨rfl, h⟩)
        | ((with_reducible show wpList _ _ _ ({ dst := _, op := Op.store 29 _ _, type := _, pos := _, after := _, guard := _ } :: _) _ _); refine wpList_storeAll_has (cells := r2) h rfl 29 _ _ rfl rfl rfl hb4' rfl (sz0.trans sz'.symm) rfl (by rw [sz']; kernel_rfl) one' ?_; clear h; intro w h))
      have hleF : M.le (M'.upd b4 (.cells r2 29)) := Mm.le_upd (Mm.le_trans hle2 hle) hn4 _
      exact bodyPost_ret (results_cell_row rfl _ _ _ _ _ _ _ rfl (h.at_ b4 _ (Mm.upd_same _ _ _)) Try.underlying29 rfl (by rw [sz']; kernel_rfl)) rfl ⟨p, v, _, by rw [SV.out], h, hleF, fun N hN => ⟨fun t ht => (RP0.out t ht).le (Mm.le_in (Mm.le_trans hle0 hleF) hN), (hown.upd_at hb4 _).rd_in fun c x h0 h1 => hN c x h1 (.inl (Mm.none_of hle2 h0))⟩⟩
end Go.Proofs.Ytlgnknaffnnkkaa
