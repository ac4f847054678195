/- Scripts as values; what is above a level. -/
import Derived.Test.YtlgnknaffnnkkaaRefMay
import Derived.Test.YtlgnknaffnnkkaaConfLevel
namespace Go.Proofs.Ytlgnknaffnnkkaa
open Go.RowKit
set_option linter.unusedVariables false
set_option linter.unusedSimpArgs false
set_option linter.unnecessarySimpa false

abbrev PCall := Nat → Int
abbrev PEnt := Int × Int
def encK (x : PCall) : List Value := [.int .i64 (x 0), .int .i64 (x 1), .int .i64 (x 2), .int .u64 (x 3), .int .u64 (x 4), .int .u64 (x 5), .int .i64 (x 6)]
def encE (x : PEnt) : List Value := [.int .i64 x.1, .int .i64 x.2]
theorem encK_len (x : PCall) : (encK x).length = 7 := rfl
theorem encE_len (x : PEnt) : (encE x).length = 2 := rfl
/-- A script's cells. -/
def scrRow (c : Nat → Int) (p : Nat → Value) (e : Value) : Array Value :=
  #[.int .i64 (c 0), .int .i64 (c 1), .int .i64 (c 2), .int .i64 (c 3), .int .i64 (c 4), .int .i64 (c 5), .int .i64 (c 6), .int .i64 (c 7), .int .i64 (c 8), .int .i64 (c 9), .int .i64 (c 10), .int .i64 (c 11), .int .i64 (c 12), .int .i64 (c 13), p 0, p 1, p 2, p 3, p 4, p 5, p 6, p 7, e]
def scrV (c : Nat → Int) (p : Nat → Value) (e : Value) : Value := .agg (scrRow c p e)
def progRow (p : Nat → Value) : Array Value := #[p 0, p 1, p 2, p 3, p 4, p 5, p 6, p 7]
theorem scr_conf (c : Nat → Int) (p : Nat → Value) (e : Value) : (scrRow c p e).extract 0 (0 + 14) = #[.int .i64 (c 0), .int .i64 (c 1), .int .i64 (c 2), .int .i64 (c 3), .int .i64 (c 4), .int .i64 (c 5), .int .i64 (c 6), .int .i64 (c 7), .int .i64 (c 8), .int .i64 (c 9), .int .i64 (c 10), .int .i64 (c 11), .int .i64 (c 12), .int .i64 (c 13)] := by kernel_rfl
theorem scr_all (c : Nat → Int) (p : Nat → Value) (e : Value) : (scrRow c p e).extract 0 (0 + 23) = scrRow c p e := by kernel_rfl
theorem scr_progs (c : Nat → Int) (p : Nat → Value) (e : Value) : (scrRow c p e).extract 14 (14 + 8) = progRow p := by kernel_rfl
theorem scr_ents (c : Nat → Int) (p : Nat → Value) (e : Value) : (scrRow c p e)[22]? = some e := by kernel_rfl
theorem scr_prog (c : Nat → Int) (p : Nat → Value) (e : Value) {t : Nat} (ht : t < 8) : (scrRow c p e)[14 + t]? = some (p t) := by
  rcases t with _ | _ | _ | _ | _ | _ | _ | _ | t
  all_goals first | rfl | omega
theorem scr_size (c : Nat → Int) (p : Nat → Value) (e : Value) : (scrRow c p e).size = 23 := by kernel_rfl
theorem prog_get (p : Nat → Value) {t : Nat} (ht : t < 8) : (progRow p)[t]? = some (p t) := by
  rcases t with _ | _ | _ | _ | _ | _ | _ | _ | t
  all_goals first | rfl | omega
/-- The script reads as these programs and entries. -/
structure RdS (M : Mm) (p : Nat → Value) (e : Value) (P : Nat → List PCall) (E : List PEnt) : Prop where
  progs : ∀ t, t < 8 → Rd M 7 (p t) (P t).length ((P t).flatMap encK)
  ents : Rd M 2 e E.length (E.flatMap encE)
theorem RdS.le {M M' : Mm} {p : Nat → Value} {e : Value} {P : Nat → List PCall} {E : List PEnt} (h : RdS M p e P E) (hm : M.le M') : RdS M' p e P E := ⟨fun t ht => (h.progs t ht).le hm, h.ents.le hm⟩

theorem level_has {σ w : World} {M : Mm} (h : Has σ M w) (c : Nat → Int) (t : Int) : Calls Try.prog 48 #[confV c, .int .i64 t] w fun e w' => e = .returned (.int .i64 (levelOf c t)) ∧ Has σ M w' :=
  (level_any c t w).mono fun e w' ⟨he, hb⟩ => ⟨he, h.below hb⟩

set_option maxHeartbeats 2000000 in
theorem refLevel_has {σ w : World} {M : Mm} (h : Has σ M w) (c : Nat → Int) (t : Int) : Calls Try.prog 38 #[confV c, .int .i64 t] w fun e w' => e = .returned (.int .i64 (levelOf c t)) ∧ Has σ M w' := by
  have RM := Lib.hid (fun (M : Mm) (w : World) (h : Has σ M w) => refMay_has h c)
  have LO : Hid (levelOf c t = if confMayB c = true ∧ 0 ≤ t ∧ t < c 1 then c (2 + t.toNat) else -1) := by
    show _ = _
    unfold levelOf
    congr 1
    simp only [eq_iff_iff]
    constructor <;> (rintro ⟨h1, h2, h3⟩; exact ⟨h1, h2, by omega⟩)
  have LE : Hid (confMayB c = true → c 1 ≤ 8) := fun h => (confMay_of h).2.1.2
  simp only [confV, ints14_lit] at RM ⊢
  generalize levelOf c t = r at *
  go_enter Try.func38, Try.ntmps38
  go_upto_region 1 with (fail)
  obtain ⟨M2, hbx, hle2, hb2, hn2⟩ := h.box (.cells #[.int .i64 (c 0), .int .i64 (c 1), .int .i64 (c 2), .int .i64 (c 3), .int .i64 (c 4), .int .i64 (c 5), .int .i64 (c 6), .int .i64 (c 7), .int .i64 (c 8), .int .i64 (c 9), .int .i64 (c 10), .int .i64 (c 11), .int .i64 (c 12), .int .i64 (c 13)] 24)
  generalize w.alloc _ = wx at hbx ⊢
  generalize w.heap.size = b2 at hb2 hn2 ⊢
  clear h
  try clear w
  have h := hbx
  clear hbx
  obtain ⟨w, rfl⟩ : ∃ x : World, x = wx := ⟨_, rfl⟩
  have hx : (#[.int .i64 (c 0), .int .i64 (c 1), .int .i64 (c 2), .int .i64 (c 3), .int .i64 (c 4), .int .i64 (c 5), .int .i64 (c 6), .int .i64 (c 7), .int .i64 (c 8), .int .i64 (c 9), .int .i64 (c 10), .int .i64 (c 11), .int .i64 (c 12), .int .i64 (c 13)] : Array Value).extract 0 (0 + 14) = #[.int .i64 (c 0), .int .i64 (c 1), .int .i64 (c 2), .int .i64 (c 3), .int .i64 (c 4), .int .i64 (c 5), .int .i64 (c 6), .int .i64 (c 7), .int .i64 (c 8), .int .i64 (c 9), .int .i64 (c 10), .int .i64 (c 11), .int .i64 (c 12), .int .i64 (c 13)] := rfl
  have c1 : (#[.int .i64 (c 0), .int .i64 (c 1), .int .i64 (c 2), .int .i64 (c 3), .int .i64 (c 4), .int .i64 (c 5), .int .i64 (c 6), .int .i64 (c 7), .int .i64 (c 8), .int .i64 (c 9), .int .i64 (c 10), .int .i64 (c 11), .int .i64 (c 12), .int .i64 (c 13)] : Array Value)[1]? = some (.int .i64 (c 1)) := rfl
  have gt : ∀ k : Nat, k < 8 → (#[.int .i64 (c 0), .int .i64 (c 1), .int .i64 (c 2), .int .i64 (c 3), .int .i64 (c 4), .int .i64 (c 5), .int .i64 (c 6), .int .i64 (c 7), .int .i64 (c 8), .int .i64 (c 9), .int .i64 (c 10), .int .i64 (c 11), .int .i64 (c 12), .int .i64 (c 13)] : Array Value)[2 + k]? = some (.int .i64 (c (2 + k))) := fun k hk => by rw [← ints14_lit, ints_get (by omega)]
  have GT := Lib.hid gt
  clear gt
  cases hm : confMayB c
  · rw [hm] at RM
    have F : Hid (r = -1) := by rw [LO.out, if_neg (by simp [hm])]; exact rfl
    clear LO LE
    go_wp2_with (first
      | (with_reducible show wpList _ _ _ ({ dst := _, op := Op.load 24 _, type := _, pos := _, after := _, guard := _ } :: _) _ _; refine wpList_agg_has h rfl 24 _ rfl rfl hb2 hx rfl Try.underlying24 rfl (by kernel_rfl) ?_; try simp only [Act.put, List.setIfInBounds_toArray, List.set_cons_zero, List.set_cons_succ])
      | (go_at_call 47; refine (RM.out _ _ h).mono ?_; clear h; rintro e w ⟨rfl, h⟩))
    go_ret
    exact ⟨by rw [F.out]; rfl, h.le hle2⟩
  · rw [hm] at RM
    have h8 := LE.out hm
    by_cases h0 : t < 0
    · have F : Hid (r = -1) := by rw [LO.out, if_neg (by omega)]; exact rfl
      clear LO LE
      go_wp2_with (first
        | (with_reducible show wpList _ _ _ ({ dst := _, op := Op.load 24 _, type := _, pos := _, after := _, guard := _ } :: _) _ _; refine wpList_agg_has h rfl 24 _ rfl rfl hb2 hx rfl Try.underlying24 rfl (by kernel_rfl) ?_; try simp only [Act.put, List.setIfInBounds_toArray, List.set_cons_zero, List.set_cons_succ])
        | (go_at_call 47; refine (RM.out _ _ h).mono ?_; clear h; rintro e w ⟨rfl, h⟩))
      go_ret
      exact ⟨by rw [F.out]; rfl, h.le hle2⟩
    · by_cases h1 : t < c 1
      · obtain ⟨q, rfl⟩ : ∃ q : Nat, t = q := ⟨t.toNat, by omega⟩
        have F : Hid (r = c (2 + q)) := by rw [LO.out, if_pos ⟨hm, by omega, h1⟩]; exact rfl
        have g := GT.out q (by omega)
        have h1' : ¬ c 1 ≤ (q : Int) := by omega
        have hq8 : q < 8 := by omega
        clear LO LE GT
        generalize c (2 + q) = x at g F
        go_wp2_with (first
          | (with_reducible show wpList _ _ _ ({ dst := _, op := Op.load 24 _, type := _, pos := _, after := _, guard := _ } :: _) _ _; refine wpList_agg_has h rfl 24 _ rfl rfl hb2 hx rfl Try.underlying24 rfl (by kernel_rfl) ?_; try simp only [Act.put, List.setIfInBounds_toArray, List.set_cons_zero, List.set_cons_succ])
          | (with_reducible show wpList _ _ _ ({ dst := _, op := Op.load 3 _, type := _, pos := _, after := _, guard := _ } :: _) _ _; refine wpList_load1_has h rfl 3 _ rfl rfl hb2 c1 Try.underlying3 rfl ?_)
          | (with_reducible show wpList _ _ _ ({ dst := _, op := Op.load 3 _, type := _, pos := _, after := _, guard := _ } :: _) _ _; refine wpList_load1_has h rfl 3 _ rfl rfl hb2 g Try.underlying3 rfl ?_)
          | (go_at_call 47; refine (RM.out _ _ h).mono ?_; clear h; rintro e w ⟨rfl, h⟩))
        go_ret
        exact ⟨by rw [F.out]; rfl, h.le hle2⟩
      · have F : Hid (r = -1) := by rw [LO.out, if_neg (by omega)]; exact rfl
        obtain ⟨q, rfl⟩ : ∃ q : Nat, t = q := ⟨t.toNat, by omega⟩
        have h1' : c 1 ≤ (q : Int) := by omega
        clear h0 h1
        clear LO LE
        go_wp2_with (first
          | (with_reducible show wpList _ _ _ ({ dst := _, op := Op.load 24 _, type := _, pos := _, after := _, guard := _ } :: _) _ _; refine wpList_agg_has h rfl 24 _ rfl rfl hb2 hx rfl Try.underlying24 rfl (by kernel_rfl) ?_; try simp only [Act.put, List.setIfInBounds_toArray, List.set_cons_zero, List.set_cons_succ])
          | (with_reducible show wpList _ _ _ ({ dst := _, op := Op.load 3 _, type := _, pos := _, after := _, guard := _ } :: _) _ _; refine wpList_load1_has h rfl 3 _ rfl rfl hb2 c1 Try.underlying3 rfl ?_)
          | (go_at_call 47; refine (RM.out _ _ h).mono ?_; clear h; rintro e w ⟨rfl, h⟩))
        go_ret
        exact ⟨by rw [F.out]; rfl, h.le hle2⟩

def aboveB (c : Nat → Int) (t l : Int) : Bool := decide (0 ≤ levelOf c t ∧ l < levelOf c t)
set_option maxHeartbeats 1000000 in
theorem refAbove_has {σ w : World} {M : Mm} (h : Has σ M w) (c : Nat → Int) (t l : Int) : Calls Try.prog 18 #[confV c, .int .i64 t, .int .i64 l] w fun e w' => e = .returned (.bool (aboveB c t l)) ∧ Has σ M w' := by
  have RL := Lib.hid (fun (M : Mm) (w : World) (h : Has σ M w) => refLevel_has h c t)
  simp only [confV, ints14_lit] at RL ⊢
  unfold aboveB
  generalize levelOf c t = n at *
  go_enter Try.func18, Try.ntmps18
  go_upto_region 1 with (fail)
  obtain ⟨M2, hbx, hle2, hb2, hn2⟩ := h.box (.cells #[.int .i64 (c 0), .int .i64 (c 1), .int .i64 (c 2), .int .i64 (c 3), .int .i64 (c 4), .int .i64 (c 5), .int .i64 (c 6), .int .i64 (c 7), .int .i64 (c 8), .int .i64 (c 9), .int .i64 (c 10), .int .i64 (c 11), .int .i64 (c 12), .int .i64 (c 13)] 24)
  generalize w.alloc _ = wx at hbx ⊢
  generalize w.heap.size = b2 at hb2 hn2 ⊢
  clear h
  try clear w
  have h := hbx
  clear hbx
  obtain ⟨w, rfl⟩ : ∃ x : World, x = wx := ⟨_, rfl⟩
  have hx : (#[.int .i64 (c 0), .int .i64 (c 1), .int .i64 (c 2), .int .i64 (c 3), .int .i64 (c 4), .int .i64 (c 5), .int .i64 (c 6), .int .i64 (c 7), .int .i64 (c 8), .int .i64 (c 9), .int .i64 (c 10), .int .i64 (c 11), .int .i64 (c 12), .int .i64 (c 13)] : Array Value).extract 0 (0 + 14) = #[.int .i64 (c 0), .int .i64 (c 1), .int .i64 (c 2), .int .i64 (c 3), .int .i64 (c 4), .int .i64 (c 5), .int .i64 (c 6), .int .i64 (c 7), .int .i64 (c 8), .int .i64 (c 9), .int .i64 (c 10), .int .i64 (c 11), .int .i64 (c 12), .int .i64 (c 13)] := rfl
  by_cases h0 : 0 ≤ n
  · by_cases h1 : l < n
    · go_wp2_with (first
        | (with_reducible show wpList _ _ _ ({ dst := _, op := Op.load 24 _, type := _, pos := _, after := _, guard := _ } :: _) _ _; refine wpList_agg_has h rfl 24 _ rfl rfl hb2 hx rfl Try.underlying24 rfl (by kernel_rfl) ?_; try simp only [Act.put, List.setIfInBounds_toArray, List.set_cons_zero, List.set_cons_succ])
        | (go_at_call 38; refine (RL.out _ _ h).mono ?_; clear h; rintro e w ⟨rfl, h⟩))
      go_ret
      exact ⟨by simp <;> omega, h.le hle2⟩
    · go_wp2_with (first
        | (with_reducible show wpList _ _ _ ({ dst := _, op := Op.load 24 _, type := _, pos := _, after := _, guard := _ } :: _) _ _; refine wpList_agg_has h rfl 24 _ rfl rfl hb2 hx rfl Try.underlying24 rfl (by kernel_rfl) ?_; try simp only [Act.put, List.setIfInBounds_toArray, List.set_cons_zero, List.set_cons_succ])
        | (go_at_call 38; refine (RL.out _ _ h).mono ?_; clear h; rintro e w ⟨rfl, h⟩))
      go_ret
      exact ⟨by simp <;> omega, h.le hle2⟩
  · go_wp2_with (first
      | (with_reducible show wpList _ _ _ ({ dst := _, op := Op.load 24 _, type := _, pos := _, after := _, guard := _ } :: _) _ _; refine wpList_agg_has h rfl 24 _ rfl rfl hb2 hx rfl Try.underlying24 rfl (by kernel_rfl) ?_; try simp only [Act.put, List.setIfInBounds_toArray, List.set_cons_zero, List.set_cons_succ])
      | (go_at_call 38; refine (RL.out _ _ h).mono ?_; clear h; rintro e w ⟨rfl, h⟩))
    go_ret
    exact ⟨by simp <;> omega, h.le hle2⟩
set_option maxHeartbeats 1000000 in
theorem purgeAbove_has {σ w : World} {M : Mm} (h : Has σ M w) (c : Nat → Int) (p : Nat → Value) (e : Value) (t l : Int) : Calls Try.prog 42 #[scrV c p e, .int .i64 t, .int .i64 l] w fun e w' => e = .returned (.bool (aboveB c t l)) ∧ Has σ M w' := by
  have RL := Lib.hid (fun (M : Mm) (w : World) (h : Has σ M w) => level_has h c t)
  simp only [confV, ints14_lit, scrV] at RL ⊢
  unfold aboveB
  generalize levelOf c t = n at *
  have hx := scr_conf c p e
  generalize scrRow c p e = row at *
  go_enter Try.func42, Try.ntmps42
  go_upto_region 1 with (fail)
  obtain ⟨M2, hbx, hle2, hb2, hn2⟩ := h.box (.cells row 29)
  generalize w.alloc _ = wx at hbx ⊢
  generalize w.heap.size = b2 at hb2 hn2 ⊢
  clear h
  try clear w
  have h := hbx
  clear hbx
  obtain ⟨w, rfl⟩ : ∃ x : World, x = wx := ⟨_, rfl⟩
  by_cases h0 : 0 ≤ n
  · by_cases h1 : l < n
    · go_wp2_with (first
        | (with_reducible show wpList _ _ _ ({ dst := _, op := Op.load 24 _, type := _, pos := _, after := _, guard := _ } :: _) _ _; refine wpList_agg_has h rfl 24 _ rfl rfl hb2 hx rfl Try.underlying24 rfl (by kernel_rfl) ?_; try simp only [Act.put, List.setIfInBounds_toArray, List.set_cons_zero, List.set_cons_succ])
        | (go_at_call 48; refine (RL.out _ _ h).mono ?_; clear h; rintro e w ⟨rfl, h⟩))
      go_ret
      exact ⟨by simp <;> omega, h.le hle2⟩
    · go_wp2_with (first
        | (with_reducible show wpList _ _ _ ({ dst := _, op := Op.load 24 _, type := _, pos := _, after := _, guard := _ } :: _) _ _; refine wpList_agg_has h rfl 24 _ rfl rfl hb2 hx rfl Try.underlying24 rfl (by kernel_rfl) ?_; try simp only [Act.put, List.setIfInBounds_toArray, List.set_cons_zero, List.set_cons_succ])
        | (go_at_call 48; refine (RL.out _ _ h).mono ?_; clear h; rintro e w ⟨rfl, h⟩))
      go_ret
      exact ⟨by simp <;> omega, h.le hle2⟩
  · go_wp2_with (first
      | (with_reducible show wpList _ _ _ ({ dst := _, op := Op.load 24 _, type := _, pos := _, after := _, guard := _ } :: _) _ _; refine wpList_agg_has h rfl 24 _ rfl rfl hb2 hx rfl Try.underlying24 rfl (by kernel_rfl) ?_; try simp only [Act.put, List.setIfInBounds_toArray, List.set_cons_zero, List.set_cons_succ])
      | (go_at_call 48; refine (RL.out _ _ h).mono ?_; clear h; rintro e w ⟨rfl, h⟩))
    go_ret
    exact ⟨by simp <;> omega, h.le hle2⟩
/-- A weaver's cells. -/
def weaRow (c : Nat → Int) (p : Nat → Value) (e : Value) (l : Int) : Array Value :=
  #[.int .i64 (c 0), .int .i64 (c 1), .int .i64 (c 2), .int .i64 (c 3), .int .i64 (c 4), .int .i64 (c 5), .int .i64 (c 6), .int .i64 (c 7), .int .i64 (c 8), .int .i64 (c 9), .int .i64 (c 10), .int .i64 (c 11), .int .i64 (c 12), .int .i64 (c 13), p 0, p 1, p 2, p 3, p 4, p 5, p 6, p 7, e, .int .i64 l]
def weaV (c : Nat → Int) (p : Nat → Value) (e : Value) (l : Int) : Value := .agg (weaRow c p e l)
theorem wea_conf (c : Nat → Int) (p : Nat → Value) (e : Value) (l : Int) : (weaRow c p e l).extract 0 (0 + 14) = #[.int .i64 (c 0), .int .i64 (c 1), .int .i64 (c 2), .int .i64 (c 3), .int .i64 (c 4), .int .i64 (c 5), .int .i64 (c 6), .int .i64 (c 7), .int .i64 (c 8), .int .i64 (c 9), .int .i64 (c 10), .int .i64 (c 11), .int .i64 (c 12), .int .i64 (c 13)] := by kernel_rfl
theorem wea_all (c : Nat → Int) (p : Nat → Value) (e : Value) (l : Int) : (weaRow c p e l).extract 0 (0 + 24) = weaRow c p e l := by kernel_rfl
theorem wea_scr (c : Nat → Int) (p : Nat → Value) (e : Value) (l : Int) : (weaRow c p e l).extract 0 (0 + 23) = scrRow c p e := by kernel_rfl
theorem wea_progs (c : Nat → Int) (p : Nat → Value) (e : Value) (l : Int) : (weaRow c p e l).extract 14 (14 + 8) = progRow p := by kernel_rfl
theorem wea_ents (c : Nat → Int) (p : Nat → Value) (e : Value) (l : Int) : (weaRow c p e l)[22]? = some e := by kernel_rfl
theorem wea_level (c : Nat → Int) (p : Nat → Value) (e : Value) (l : Int) : (weaRow c p e l)[23]? = some (.int .i64 l) := by kernel_rfl
theorem wea_prog (c : Nat → Int) (p : Nat → Value) (e : Value) (l : Int) {t : Nat} (ht : t < 8) : (weaRow c p e l)[14 + t]? = some (p t) := by
  rcases t with _ | _ | _ | _ | _ | _ | _ | _ | t
  all_goals first | rfl | omega
set_option maxHeartbeats 1000000 in
theorem weaAbove_has {σ w : World} {M : Mm} (h : Has σ M w) (c : Nat → Int) (p : Nat → Value) (e : Value) (t l : Int) : Calls Try.prog 39 #[weaV c p e l, .int .i64 t] w fun e w' => e = .returned (.bool (aboveB c t l)) ∧ Has σ M w' := by
  have RL := Lib.hid (fun (M : Mm) (w : World) (h : Has σ M w) => level_has h c t)
  simp only [confV, ints14_lit, weaV] at RL ⊢
  unfold aboveB
  generalize levelOf c t = n at *
  have hx := wea_conf c p e l
  have hl := wea_level c p e l
  generalize weaRow c p e l = row at *
  go_enter Try.func39, Try.ntmps39
  go_upto_region 1 with (fail)
  obtain ⟨M2, hbx, hle2, hb2, hn2⟩ := h.box (.cells row 46)
  generalize w.alloc _ = wx at hbx ⊢
  generalize w.heap.size = b2 at hb2 hn2 ⊢
  clear h
  try clear w
  have h := hbx
  clear hbx
  obtain ⟨w, rfl⟩ : ∃ x : World, x = wx := ⟨_, rfl⟩
  by_cases h0 : 0 ≤ n
  · by_cases h1 : l < n
    · go_wp2_with (first
        | (with_reducible show wpList _ _ _ ({ dst := _, op := Op.load 24 _, type := _, pos := _, after := _, guard := _ } :: _) _ _; refine wpList_agg_has h rfl 24 _ rfl rfl hb2 hx rfl Try.underlying24 rfl (by kernel_rfl) ?_; try simp only [Act.put, List.setIfInBounds_toArray, List.set_cons_zero, List.set_cons_succ])
        | (with_reducible show wpList _ _ _ ({ dst := _, op := Op.load 3 _, type := _, pos := _, after := _, guard := _ } :: _) _ _; refine wpList_load1_has h rfl 3 _ rfl rfl hb2 hl Try.underlying3 rfl ?_)
        | (go_at_call 48; refine (RL.out _ _ h).mono ?_; clear h; rintro e w ⟨rfl, h⟩))
      go_ret
      exact ⟨by simp <;> omega, h.le hle2⟩
    · go_wp2_with (first
        | (with_reducible show wpList _ _ _ ({ dst := _, op := Op.load 24 _, type := _, pos := _, after := _, guard := _ } :: _) _ _; refine wpList_agg_has h rfl 24 _ rfl rfl hb2 hx rfl Try.underlying24 rfl (by kernel_rfl) ?_; try simp only [Act.put, List.setIfInBounds_toArray, List.set_cons_zero, List.set_cons_succ])
        | (with_reducible show wpList _ _ _ ({ dst := _, op := Op.load 3 _, type := _, pos := _, after := _, guard := _ } :: _) _ _; refine wpList_load1_has h rfl 3 _ rfl rfl hb2 hl Try.underlying3 rfl ?_)
        | (go_at_call 48; refine (RL.out _ _ h).mono ?_; clear h; rintro e w ⟨rfl, h⟩))
      go_ret
      exact ⟨by simp <;> omega, h.le hle2⟩
  · go_wp2_with (first
      | (with_reducible show wpList _ _ _ ({ dst := _, op := Op.load 24 _, type := _, pos := _, after := _, guard := _ } :: _) _ _; refine wpList_agg_has h rfl 24 _ rfl rfl hb2 hx rfl Try.underlying24 rfl (by kernel_rfl) ?_; try simp only [Act.put, List.setIfInBounds_toArray, List.set_cons_zero, List.set_cons_succ])
      | (with_reducible show wpList _ _ _ ({ dst := _, op := Op.load 3 _, type := _, pos := _, after := _, guard := _ } :: _) _ _; refine wpList_load1_has h rfl 3 _ rfl rfl hb2 hl Try.underlying3 rfl ?_)
      | (go_at_call 48; refine (RL.out _ _ h).mono ?_; clear h; rintro e w ⟨rfl, h⟩))
    go_ret
    exact ⟨by simp <;> omega, h.le hle2⟩
end Go.Proofs.Ytlgnknaffnnkkaa
