/- Walks of layer 7 (warden): which slots are held. -/
import Derived.Test.YtlpkimpdeeiaaaaGreatMapS
import Derived.Test.YtlpkimpdeeiaaaaGreatHeldB
import Derived.Carry
namespace Go.Proofs.YtlpkimpdeeiaaaaGreat
open Go.RowKit
set_option linter.unusedVariables false
set_option linter.unusedSimpArgs false
set_option linter.unnecessarySimpa false
section
variable {o op : Oper} {a : Act} {ops : Array Oper} {σ w : World} {M : Mm} {Q : Exit → Act → World → Prop} {K : Act → World → Prop} {E : Prop} {b : Nat} {es : List Ent} {clock : Nat} {l s v : Int}
theorem quiet_lookup_spot {K : Act → Prop} (m x : Operand) (ho : o.op = .lookup 106 m x false) (hm : a.eval m = .map (some b)) (hx : a.eval x = spotV l s) (hb : M b = some (mapRow es clock)) (h : K (a.put o.dst (.int .i64 (valE l s es)))) : o.quiet Tryz.prog a (Has σ M) K :=
  ⟨_, fun w hw => by
    unfold Oper.quietAt execOp
    simp [ho, hm, hx, run_lookup_spot hw hb l s]
    exact ⟨rfl, rfl⟩, h⟩
theorem yields_lookup_spot (hw : Region.wanted op (yielded ops a.tmps) = true) (m x : Operand) (ho : op.op = .lookup 106 m x false) (hm : a.eval m = .map (some b)) (hx : a.eval x = spotV l s) (hb : M b = some (mapRow es clock)) : YieldsIf Tryz.prog ops (Has σ M) op (.int .i64 (valE l s es)) a :=
  .inl ⟨hw, fun w h => by
    unfold execOp
    simp [ho, hm, hx, run_lookup_spot h hb l s]⟩
theorem step_update_spot (h : Has σ M w) (hg : op.guard = none) (m x y : Operand) (ho : op.op = .mapUpdate 106 m x y) (hm : a.eval m = .map (some b)) (hx : a.eval x = spotV l s) (hy : a.eval y = .int .i64 v) (hb : M b = some (mapRow es clock))
    (hk : ∀ w', Has σ (M.upd b (mapRow (putE l s v clock es) (if hasE l s es then clock else clock + 1))) w' → K (a.put op.dst undef) w') : if Region.wanted op (yielded ops a.tmps) = true then Oper.wp Tryz.prog op a w K Q else E := by
  have hw : Region.wanted op (yielded ops a.tmps) = true := by simp [Region.wanted, hg]
  rw [if_pos hw]
  obtain ⟨w', hrun, h'⟩ := run_update_spot h hb l s v
  unfold Oper.wp
  simp [execOp, ho, hm, hx, hy, hrun, Result.andThen]
  exact hk w' h'
end
/-- What a warden knows. -/
structure WardS where
  hb : Nat
  gb : Nat
  lv : Int
  sl : Int
  held : List Ent
  hclk : Nat
  gens : List Ent
  gclk : Nat
  slips : Nat
def WardS.cells (s : WardS) : Array Value := #[.int .i64 s.lv, .int .i64 s.sl, .map (some s.hb), .map (some s.gb), .int .i64 (s.slips : Nat)]
structure IsWard (M : Mm) (p : Nat) (s : WardS) : Prop where
  obj : M p = some (.cells s.cells 108)
  held : M s.hb = some (mapRow s.held s.hclk)
  gens : M s.gb = some (mapRow s.gens s.gclk)
  ne : s.hb ≠ s.gb
theorem IsWard.neh {M : Mm} {p : Nat} {s : WardS} (h : IsWard M p s) : p ≠ s.hb := fun e => by
  have h1 := h.obj
  rw [e, h.held] at h1
  unfold mapRow at h1
  cases h1
theorem IsWard.neg {M : Mm} {p : Nat} {s : WardS} (h : IsWard M p s) : p ≠ s.gb := fun e => by
  have h1 := h.obj
  rw [e, h.gens] at h1
  unfold mapRow at h1
  cases h1
def WardS.there (s : WardS) (l t : Int) : Bool := decide (0 ≤ l) && (decide (l < s.lv) && (decide (1 ≤ t) && decide (t ≤ s.sl)))
theorem WardS.there_iff {s : WardS} {l t : Int} : s.there l t = true ↔ 0 ≤ l ∧ l < s.lv ∧ 1 ≤ t ∧ t ≤ s.sl := by unfold WardS.there; simp
set_option maxHeartbeats 1000000 in
theorem wardNew_eq {σ w : World} {M : Mm} (h : Has σ M w) (lv sl : Int) (h1 : 1 ≤ lv ∧ lv ≤ 4) (h2 : 1 ≤ sl ∧ sl ≤ 60) : Calls Tryz.prog 21 #[.int .i64 lv, .int .i64 sl] w fun r w' => ∃ p hb gb M', r = .returned (.pointer (some ⟨p, 0, none⟩)) ∧ Has σ M' w' ∧ M.le M' ∧ M p = none ∧ M hb = none ∧ M gb = none ∧ IsWard M' p ⟨hb, gb, lv, sl, [], 0, [], 0, 0⟩ := by
  have g1 : decide (lv < 1) = false := decide_eq_false (by omega)
  have g2 : decide (4 < lv) = false := decide_eq_false (by omega)
  have g3 : decide (sl < 1) = false := decide_eq_false (by omega)
  have g4 : decide (60 < sl) = false := decide_eq_false (by omega)
  have MM : ∀ W, (Instr.makeMap 106 none).run Tryz.prog W = .ok (.map (some W.heap.size)) (W.alloc (.map #[] 0)) := fun W => run_makeMap 106 W
  clear h1 h2
  go_enter Tryz.func21, Tryz.ntmps21
  go_wp2
  go_ret
  have z1 : (w.alloc (.map #[] 0)).heap.size = w.heap.size + 1 := by simp
  have z2 : ((w.alloc (.map #[] 0)).alloc (.map #[] 0)).heap.size = w.heap.size + 1 + 1 := by simp
  have k1 := h.alloc (.map #[] 0)
  have n1 := h.fresh
  have k2 := k1.alloc (.map #[] 0)
  have n2 := k1.fresh
  have k3 := k2.alloc (.cells (WardS.cells ⟨w.heap.size, w.heap.size + 1, lv, sl, [], 0, [], 0, 0⟩) 108)
  have n3 := k2.fresh
  rw [z1] at k2 k3 n2 n3
  rw [z2] at k3 n3
  have e1 : M.le (M.upd w.heap.size (.map #[] 0)) := Mm.le_upd' n1 _
  have e2 := Mm.le_trans e1 (Mm.le_upd' n2 (.map #[] 0))
  have b1 := (Mm.upd_ne (M := M.upd w.heap.size (.map #[] 0)) (o := .map #[] 0) (Mm.ne_of n2 (Mm.upd_same _ _ _))).trans (Mm.upd_same M w.heap.size (.map #[] 0))
  have b2 := Mm.upd_same (M.upd w.heap.size (.map #[] 0)) (w.heap.size + 1) (.map #[] 0)
  exact ⟨_, _, _, _, rfl, k3, Mm.le_trans e2 (Mm.le_upd' n3 _), Mm.none_of e2 n3, n1, Mm.none_of e1 n2, ⟨Mm.upd_same _ _ _, (Mm.upd_ne (Mm.ne_of n3 b1)).trans b1, (Mm.upd_ne (Mm.ne_of n3 b2)).trans b2, Nat.ne_of_lt (Nat.lt_succ_self _)⟩⟩
set_option maxHeartbeats 1000000 in
theorem there_eq {σ w : World} {M : Mm} (h : Has σ M w) {p : Nat} {s : WardS} (hM : IsWard M p s) (l t : Int) : Calls Tryz.prog 46 #[.pointer (some ⟨p, 0, none⟩), spotV l t] w fun r w' => r = .returned (.bool (s.there l t)) ∧ Has σ M w' := by
  have hp := hM.obj
  obtain ⟨hb, gb, lv, sl, held, hclk, gens, gclk, slips⟩ := s
  have e0 : (WardS.cells ⟨hb, gb, lv, sl, held, hclk, gens, gclk, slips⟩)[0]? = some (.int .i64 lv) := rfl
  have e1 : (WardS.cells ⟨hb, gb, lv, sl, held, hclk, gens, gclk, slips⟩)[1]? = some (.int .i64 sl) := rfl
  have E : Hid (WardS.there ⟨hb, gb, lv, sl, held, hclk, gens, gclk, slips⟩ l t = (decide (0 ≤ l) && (decide (l < lv) && (decide (1 ≤ t) && decide (t ≤ sl))))) := rfl
  clear hM
  generalize WardS.cells ⟨hb, gb, lv, sl, held, hclk, gens, gclk, slips⟩ = cs at hp e0 e1
  unfold spotV
  cases h1 : decide (0 ≤ l)
  all_goals cases h2 : decide (l < lv)
  all_goals cases h3 : decide (1 ≤ t)
  all_goals cases h4 : decide (t ≤ sl)
  all_goals
    rw [h1, h2, h3, h4] at E
    go_enter Tryz.func46, Tryz.ntmps46
    go_upto_region 1 with (first
      | ((with_reducible show wpList _ _ _ ({ dst := _, op := Op.box 114 _, type := _, pos := _, after := _, guard := _ } :: _) _ _); refine wpList_box_has h rfl 114 _ rfl ?_; clear h; intro bx w h hnx; try simp only [Act.put, List.setIfInBounds_toArray, List.set_cons_zero, List.set_cons_succ]))
    generalize hM1 : M.upd bx _ = M1 at h
    have hle : M.le M1 := by rw [← hM1]; exact Mm.le_upd' hnx _
    have hbx : M1 bx = some (.cells #[.int .i64 l, .int .i64 t] 114) := by rw [← hM1]; exact Mm.upd_same _ _ _
    replace hp := hle _ _ hp
    clear hM1 hnx
    have d0 : (#[.int .i64 l, .int .i64 t] : Array Value)[0]? = some (.int .i64 l) := rfl
    have d1 : (#[.int .i64 l, .int .i64 t] : Array Value)[1]? = some (.int .i64 t) := rfl
    refine wp_region_class (Has σ M1) (by kernel_rfl) (by kernel_rfl) h.drew ?_
    clear h
    repeat (first
      | go_big_quiet_skip
      | (go_big_quiet_want; first
        | (refine quiet_load_has 3 _ rfl rfl hbx d0 Tryz.underlying3 rfl ?_; simp only [Act.put, List.setIfInBounds_toArray, List.set_cons_zero, List.set_cons_succ]; go_big_quiet_on)
        | (refine quiet_load_has 3 _ rfl rfl hbx d1 Tryz.underlying3 rfl ?_; simp only [Act.put, List.setIfInBounds_toArray, List.set_cons_zero, List.set_cons_succ]; go_big_quiet_on)
        | (refine quiet_load_has 3 _ rfl rfl hp e0 Tryz.underlying3 rfl ?_; simp only [Act.put, List.setIfInBounds_toArray, List.set_cons_zero, List.set_cons_succ]; go_big_quiet_on)
        | (refine quiet_load_has 3 _ rfl rfl hp e1 Tryz.underlying3 rfl ?_; simp only [Act.put, List.setIfInBounds_toArray, List.set_cons_zero, List.set_cons_succ]; go_big_quiet_on)
        | (go_big_quiet_op; first | go_big_quiet_on | go_big_quiet_call (first | with_reducible exact fun _ => rfl))))
    refine wpQuiet_nil ?_
    try clear w
    intro w h
    go_wp2
    go_ret
    exact ⟨by rw [E.out]; rfl, h.le hle⟩
end Go.Proofs.YtlpkimpdeeiaaaaGreat
