import Derived.Test.YtjeeldacnllipaaGreatLpMachT
namespace Go.Proofs.YtjeeldacnllipaaGreat
set_option maxHeartbeats 100000000
set_option maxRecDepth 20000
set_option linter.unusedVariables false
set_option linter.unusedSimpArgs false
set_option linter.unnecessarySimpa false
open List renaming getElem_toArray → qA, getElem_cons_succ → qB, getElem_cons_zero → qC, setIfInBounds_toArray → qD, set_cons_zero → qE, set_cons_succ → qF
section
open Go.RowKit
theorem mSpot_yes {σ w : World} {M : Mm} {lab : Nat → Nat} {p : Nat} {s : MachS} (h : Has σ M w) (hM : Mach M lab p s) (t lv : Int) (hlv : zT s.c t = lv) (hl0 : 0 ≤ lv) (hl1 : lv < s.c 0) (k : Nat) (x i j : Int) (hk : InK s.c k i j) :
  Calls Tryz.prog 120 #[.pointer (some ⟨p, 0, none⟩), .int .i64 t, .agg #[.int .i64 x, .int .i64 k, .int .i64 i, .int .i64 j]] w fun r w' => r = .returned (.int .i64 (atK s.c lv k i j)) ∧ Has σ M w' := by
 have LV := Lib.hid (fun (M' : Mm) (w : World) (h : Has σ M' w) (hle : M.le M') => vV h (hM.keep (Kp.le hle fun _ => 0) fun _ _ h => h) t)
 have PL := Lib.hid (fun (M' : Mm) (w : World) (h : Has σ M' w) (hle : M.le M') => wU h (hM.keep (Kp.le hle fun _ => 0) fun _ _ h => h))
 have AT := Lib.hid (fun (M' : Mm) (w : World) (h : Has σ M' w) (hle : M.le M') => at_yes h s.c hM.may (hle _ _ hM.plan) lv k i j hl0 hl1 hk)
 rw [hlv] at LV
 unfold plc at AT
 clear hM hlv hl0 hl1 hk
 go_enter Tryz.func120, Tryz.ntmps120
 go_upto_region 1 with (fail)
 obtain ⟨M1, hbx, hle, hbx1, hnx⟩ := h.box (.cells #[.int .i64 x, .int .i64 k, .int .i64 i, .int .i64 j] 157)
 generalize w.alloc _ = wx at hbx ⊢
 generalize w.heap.size = bx at hbx1 hnx ⊢
 clear h
 try clear w
 have h := hbx
 clear hbx
 obtain ⟨w, rfl⟩ : ∃ x : World, x = wx := ⟨_, rfl⟩
 have hlt : 0 < (#[.int .i64 x, .int .i64 k, .int .i64 i, .int .i64 j] : Array Value).size := show 0 < 4 by omega
 go_upto_region 2 with (first
  | (go_at_call 12; refine (LV.out _ _ h hle).mono ?_; clear h; rintro _ w ⟨rfl, h⟩)
  | (with_reducible show wpList _ _ _ (⟨_, .store 3 _ _, _, _, _, _⟩ :: _) _ _; refine zV h rfl 3 _ _ rfl rfl rfl hbx1 hlt rfl (by kernel_rfl) ?_; clear h; intro w h))
 have h2 : Has σ (M1.upd bx (.cells #[.int .i64 lv, .int .i64 k, .int .i64 i, .int .i64 j] 157)) w := h
 have hle2 : M.le (M1.upd bx (.cells #[.int .i64 lv, .int .i64 k, .int .i64 i, .int .i64 j] 157)) := Mm.le_upd hle hnx _
 have hbx2 := Mm.upd_same M1 bx (.cells #[.int .i64 lv, .int .i64 k, .int .i64 i, .int .i64 j] 157)
 clear h hbx1 hlt hle
 have h := h2
 clear h2
 generalize M1.upd bx _ = M2 at h hle2 hbx2
 have dx : (#[.int .i64 lv, .int .i64 k, .int .i64 i, .int .i64 j] : Array Value).extract 0 (0 + 4) = #[.int .i64 lv, .int .i64 k, .int .i64 i, .int .i64 j] := rfl
 have PL2 := Lib.hid (fun (w : World) (h : Has σ M2 w) => PL.out M2 w h hle2)
 have AT2 := Lib.hid (fun (w : World) (h : Has σ M2 w) => AT.out M2 w h hle2)
 refine zS (Has σ M2) (by kernel_rfl) (by kernel_rfl) h.drew ?_
 clear h
 repeat (first
  | go_big_quiet_skip
  | (go_big_quiet_want; first
   | (refine zL 157 _ rfl rfl hbx2 dx rfl Tryz.underlying157 rfl (by kernel_rfl) ?_; simp only [Act.put, qD, qE, qF]; go_big_quiet_on)
   | (go_big_quiet_op; first | go_big_quiet_on | go_big_quiet_call (first | with_reducible exact fun _ => rfl | with_reducible exact PL2.out _ | with_reducible exact AT2.out _))))
 refine wpQuiet_nil ?_
 try clear w
 intro w h
 go_wp2
 go_ret
 exact ⟨rfl, h.le hle2⟩
end
section
open Go.RowKit Go.Instr
def delE (l s : Int) : List Ent → List Ent
 | [] => []
 | x :: r => if l == x.l && s == x.s then r else x :: delE l s r
theorem jP (l s : Int) : ∀ (es : List Ent) (i : Nat), (tL l s es i = none ∧ hasE l s es = false) ∨ (∃ j, tL l s es i = some (i + j, .int .i64 (valE l s es)) ∧ (es.map Ent.e).eraseIdx j = (delE l s es).map Ent.e)
 | [], i => .inl ⟨rfl, rfl⟩
 | x :: r, i => by
  unfold tL hasE valE delE
  cases h : (l == x.l && s == x.s)
  ·rcases jP l s r (i + 1) with ⟨h1, h2⟩ | ⟨j, h1, h2⟩
   ·exact .inl ⟨by simpa using h1, by simpa using h2⟩
   refine .inr ⟨j + 1, ?_, ?_⟩
   ·simp only [Bool.false_eq_true, if_false]
    rw [h1]
    congr 2
    omega
   simp only [Bool.false_eq_true, if_false, List.map_cons, List.eraseIdx_cons_succ, h2]
  exact .inr ⟨0, by simp, by simp⟩
def vP (l s : Int) (clock : Nat) : List Ent → Nat
 | [] => clock
 | x :: r => if l == x.l && s == x.s then x.born else vP l s clock r
def setB (b : Nat) (v : Int) : List Ent → List Ent
 | [] => []
 | x :: r => if x.born = b then { x with v := v } :: r else x :: setB b v r
def StampE (es : List Ent) (clock : Nat) : Prop := (∀ x ∈ es, x.born < clock) ∧ (es.map (·.born)).Nodup
theorem bornE_in (l s : Int) (clock : Nat) : ∀ es : List Ent, vP l s clock es = clock ∨ vP l s clock es ∈ es.map (·.born)
 | [] => .inl rfl
 | x :: r => by
  unfold vP
  cases h : (l == x.l && s == x.s)
  ·rcases bornE_in l s clock r with h | h
   ·exact .inl h
   exact .inr (List.mem_cons_of_mem _ h)
  exact .inr (by simp)
theorem StampE.tail {x : Ent} {r : List Ent} {clock : Nat} (h : StampE (x :: r) clock) : StampE r clock := ⟨fun y hy => h.1 y (List.mem_cons_of_mem _ hy), by have := h.2; simp only [List.map_cons, List.nodup_cons] at this; exact this.2⟩
theorem setB_put (l s v : Int) (clock : Nat) : ∀ es : List Ent, StampE es clock → setB (vP l s clock es) v (putE l s (valE l s es) clock es) = putE l s v clock es
 | [], _ => by simp [vP, putE, valE, setB]
 | x :: r, h => by
  unfold vP putE valE
  cases hx : (l == x.l && s == x.s)
  ·have hne : x.born ≠ vP l s clock r := by
    rcases bornE_in l s clock r with e | e
    ·have := h.1 x (by simp); omega
    intro e2
    have := h.2
    simp only [List.map_cons, List.nodup_cons] at this
    rw [← e2] at e
    exact this.1 e
   simp only [Bool.false_eq_true, if_false]
   unfold setB
   rw [if_neg hne, setB_put l s v clock r h.tail]
  simp [setB]
theorem jI (l s : Int) (clock : Nat) : ∀ es : List Ent, ∃ x ∈ putE l s (valE l s es) clock es, x.born = vP l s clock es
 | [] => ⟨⟨l, s, 0, clock⟩, by simp [putE, valE], rfl⟩
 | x :: r => by
  unfold vP putE valE
  cases hx : (l == x.l && s == x.s)
  ·obtain ⟨y, h1, h2⟩ := jI l s clock r
   exact ⟨y, by simpa using .inr h1, by simpa using h2⟩
  exact ⟨{ x with v := x.v }, by simp, by simp⟩
theorem findB (b : Nat) (v : Int) : ∀ es : List Ent, (∃ x ∈ es, x.born = b) → ∃ j, (es.map Ent.e).findIdx? (fun e => (e.born : Int) == (b : Int)) = some j ∧ (es.map Ent.e).modify j (fun e => { e with val := .int .i64 v }) = (setB b v es).map Ent.e
 | [], h => by simp at h
 | x :: r, h => by
  unfold setB
  by_cases hx : x.born = b
  ·refine ⟨0, ?_, ?_⟩
   ·simp [List.findIdx?_cons, Ent.e, hx]
   simp [hx, Ent.e]
  have h2 : ∃ x ∈ r, x.born = b := by
   obtain ⟨y, hy, e⟩ := h
   rcases List.mem_cons.1 hy with rfl | hy
   ·exact absurd e hx
   exact ⟨y, hy, e⟩
  obtain ⟨j, h3, h4⟩ := findB b v r h2
  refine ⟨j + 1, ?_, ?_⟩
  ·have hx2 : ((x.born : Int) == (b : Int)) = false := by simp only [beq_eq_false_iff_ne, ne_eq, Int.natCast_inj]; exact hx
   rw [List.map_cons, List.findIdx?_cons]
   simp only [show (Ent.e x).born = x.born from rfl, hx2, h3]
   simp
  simp only [hx, if_false, List.map_cons, List.modify_succ_cons, h4]
theorem modify_self (es : List MapEntry) : ∀ (j : Nat) (f : MapEntry → MapEntry), (∀ x, es[j]? = some x → f x = x) → es.modify j f = es := by
 induction es with
 | nil => intro j f _; simp
 | cons x r ih =>
  intro j f hf
  cases j with
  | zero => simp [hf x (by simp)]
  | succ j => simp [ih j f fun y hy => hf y (by simpa using hy)]
theorem jQ (l s : Int) (clock : Nat) : ∀ (es : List Ent) (i : Nat), hasE l s es = true → ∃ j x, tL l s es i = some (i + j, .int .i64 (valE l s es)) ∧ (es.map Ent.e)[j]? = some (Ent.e x) ∧ x.l = l ∧ x.s = s ∧ x.born = vP l s clock es ∧ putE l s (valE l s es) clock es = es
 | [], i, h => by cases h
 | x :: r, i, h => by
  unfold hasE at h
  unfold tL valE vP putE
  cases hx : (l == x.l && s == x.s)
  ·rw [hx, Bool.false_or] at h
   obtain ⟨j, y, h1, h2, h3, h4, h5, h6⟩ := jQ l s clock r (i + 1) h
   refine ⟨j + 1, y, ?_, by simpa using h2, h3, h4, by simpa using h5, by simpa using h6⟩
   simp only [Bool.false_eq_true, if_false]
   rw [h1]
   congr 2
   omega
  simp only [Bool.and_eq_true, beq_iff_eq] at hx
  obtain ⟨rfl, rfl⟩ := hx
  exact ⟨0, x, by simp, by simp, rfl, rfl, by simp, by simp⟩
section
variable {o op : Oper} {a : Act} {ops : Array Oper} {rest : List Oper} {σ w : World} {M : Mm} {Q : Exit → Act → World → Prop} {K : Act → World → Prop} {E : Prop} {b : Nat} {es : List Ent} {clock : Nat} {l s v : Int}
theorem Has.obj (h : Has σ M w) {ob : Obj} (hb : M b = some ob) (o : Obj) : Has σ (M.upd b o) { w with heap := w.heap.setIfInBounds b o } :=
 h.put ⟨rfl, rfl, rfl, by simp, fun k hk => by simp [Array.getElem?_setIfInBounds, Ne.symm hk]⟩ (by simp [lt_of_block (h.at_ b _ hb)])
theorem nC (h : Has σ M w) (hb : M b = some (zH es clock)) (l s : Int) (ty : TypeId) : ∃ w', (Builtin.delete_ #[128, 126] ty #[.map (some b), yF l s]).run Tryz.prog w = .ok (.tuple #[]) w' ∧ Has σ (M.upd b (zH (delE l s es) clock)) w' := by
 have hw := h.at_ b _ hb
 unfold Builtin.delete_
 simp only [List.getElem?_toArray, List.getElem?_cons_zero, List.getElem?_cons_succ, Sem.run_bind, run_underlying Tryz.underlying128, Result.andThen_ok, MapKept.run_getObj_map hw, qL, oW]
 rcases jP l s es 0 with ⟨h1, h2⟩ | ⟨j, h1, h2⟩
 ·rw [h1]
  have e : delE l s es = es := by
   have : ∀ es : List Ent, hasE l s es = false → delE l s es = es := by
    intro es
    induction es with
    | nil => intro _; rfl
    | cons x r ih =>
     intro h
     unfold hasE at h
     simp only [Bool.or_eq_false_iff] at h
     unfold delE
     rw [if_neg (by rw [h.1]; exact Bool.false_ne_true), ih h.2]
   exact this es h2
  rw [e]
  simp only [Sem.run_bind, MapKept.run_setObj_map _ hw, Result.andThen_ok, Sem.run_pure]
  exact ⟨_, rfl, h.obj hb _⟩
 rw [h1]
 have e : zH (delE l s es) clock = .map ((es.map Ent.e).toArray.eraseIdxIfInBounds (0 + j)) clock := by
  unfold zH
  rw [← h2, Nat.zero_add]
  simp
 rw [e]
 simp only [Sem.run_bind, MapKept.run_setObj_map _ hw, Result.andThen_ok, Sem.run_pure]
 exact ⟨_, rfl, h.obj hb _⟩
theorem pY (h : Has σ M w) (hg : op.guard = none) (m x : Operand) (ho : op.op = .call { callee := .builtin .delete, args := #[m, x], argTypes := #[128, 126] }) (hm : a.eval m = .map (some b)) (hx : a.eval x = yF l s) (hb : M b = some (zH es clock))
  (hk : ∀ w', Has σ (M.upd b (zH (delE l s es) clock)) w' → wpList Tryz.prog ops Q rest (a.put op.dst (.tuple #[])) w') : wpList Tryz.prog ops Q (op :: rest) a w := by
 obtain ⟨w', hr, h'⟩ := nC h hb l s op.type
 refine wpList_plain hg fun _ hK => ?_
 unfold Oper.wp execOp
 simp only [ho, resolve, invoke, builtin, Sem.run_bind, Sem.run_pure, Result.andThen_ok, List.map_toArray, List.map_cons, List.map_nil, hm, hx, hr]
 exact hK _ _ (hk w' h')
theorem mM (h : Has σ M w) (hb : M b = some (zH es clock)) (l s : Int) : ∃ w', (Instr.mapEntry 128 (.map (some b)) (yF l s)).run Tryz.prog w = .ok (.tuple #[.int .i64 (valE l s es), .int .i64 (vP l s clock es : Nat)]) w' ∧ Has σ (M.upd b (zH (putE l s (valE l s es) clock es) (if hasE l s es then clock else clock + 1))) w' := by
 have hw := h.at_ b _ hb
 unfold Instr.mapEntry
 simp only [Sem.run_bind, run_underlying Tryz.underlying128, Result.andThen_ok, MapKept.run_getObj_map hw, qL, oW]
 cases hh : hasE l s es
 ·rcases qP l s es 0 with ⟨h1, _, h3⟩ | ⟨j, _, h2⟩
  ·rw [h1]
   have hbn : vP l s clock es = clock := by
    have : ∀ es : List Ent, hasE l s es = false → vP l s clock es = clock := by
     intro es
     induction es with
     | nil => intro _; rfl
     | cons x r ih =>
      intro h
      unfold hasE at h
      simp only [Bool.or_eq_false_iff] at h
      unfold vP
      rw [if_neg (by rw [h.1]; exact Bool.false_ne_true), ih h.2]
    exact this es hh
   rw [uO l s _ clock es hh, h3, hbn]
   have e : zH (es ++ [⟨l, s, 0, clock⟩]) (clock + 1) = .map ((es.map Ent.e).toArray.push { key := yF l s, val := .int .i64 0, born := clock }) (clock + 1) := by
    unfold zH
    simp [Ent.e]
   simp only [Bool.false_eq_true, if_false, Sem.run_bind, zero_int, Result.andThen_ok, MapKept.run_setObj_map _ hw, Sem.run_pure]
   rw [e]
   exact ⟨_, rfl, h.obj hb _⟩
  rw [hh] at h2; cases h2
 obtain ⟨j, x, h1, h2, h3, h4, h5, h6⟩ := jQ l s clock es 0 hh
 rw [h1]
 have hkey : (((es.map Ent.e).toArray[0 + j]?).map (·.key)).getD (yF l s) = yF l s := by
  rw [Nat.zero_add]
  simp only [List.getElem?_toArray]
  rw [h2]
  simp only [Option.map_some, Option.getD_some, Ent.e, h3, h4]
 have hborn : (((es.map Ent.e).toArray[0 + j]?).map (fun x => (x.born : Int))).getD 0 = (vP l s clock es : Nat) := by
  rw [Nat.zero_add]
  simp only [List.getElem?_toArray]
  rw [h2]
  simp only [Option.map_some, Option.getD_some, Ent.e, h5]
 simp only [hkey, hborn, goInt, keyThatStays, kD, if_true, Sem.run_bind, Sem.run_pure, Result.andThen_ok, MapKept.run_setObj_map _ hw]
 refine ⟨_, rfl, ?_⟩
 have e : zH (putE l s (valE l s es) clock es) clock = .map ((es.map Ent.e).toArray.modify (0 + j) fun e => { e with key := yF l s }) clock := by
  unfold zH
  rw [h6, Nat.zero_add]
  have := modify_self (es.map Ent.e) j (fun e => { e with key := yF l s }) (fun y hy => by
   rw [h2] at hy
   simp only [Option.some.injEq] at hy
   subst hy
   simp [Ent.e, h3, h4])
  rw [List.modify_toArray, this]
 rw [e]
 exact h.obj hb _
theorem qK (h : Has σ M w) {born : Nat} (hb : M b = some (zH es clock)) (hborn : ∃ x ∈ es, x.born = born) (v : Int) : ∃ w', (Instr.entryStore 128 (.map (some b)) (.int .i64 (born : Nat)) (.int .i64 v)).run Tryz.prog w = .ok () w' ∧ Has σ (M.upd b (zH (setB born v es) clock)) w' := by
 have hw := h.at_ b _ hb
 obtain ⟨j, h1, h2⟩ := findB born v es hborn
 unfold Instr.entryStore
 simp only [Sem.run_bind, Result.andThen_ok, MapKept.run_getObj_map hw, asInt, asIntOf, Sem.run_pure, List.findIdx?_toArray, h1, MapKept.run_setObj_map _ hw]
 refine ⟨_, rfl, ?_⟩
 have e : zH (setB born v es) clock = .map ((es.map Ent.e).toArray.modify j fun e => { e with val := .int .i64 v }) clock := by
  unfold zH
  rw [← h2]
  simp
 rw [e]
 exact h.obj hb _
theorem rW (h : Has σ M w) (hg : op.guard = none) (m x : Operand) (ho : op.op = .mapEntry 128 m x) (hm : a.eval m = .map (some b)) (hx : a.eval x = yF l s) (hb : M b = some (zH es clock))
  (hk : ∀ w', Has σ (M.upd b (zH (putE l s (valE l s es) clock es) (if hasE l s es then clock else clock + 1))) w' → K (a.put op.dst (.tuple #[.int .i64 (valE l s es), .int .i64 (vP l s clock es : Nat)])) w') : if Region.wanted op (yielded ops a.tmps) = true then Oper.wp Tryz.prog op a w K Q else E := by
 have hw : Region.wanted op (yielded ops a.tmps) = true := by simp [Region.wanted, hg]
 rw [if_pos hw]
 obtain ⟨w', hrun, h'⟩ := mM h hb l s
 unfold Oper.wp
 simp [execOp, ho, hm, hx, hrun, Result.andThen]
 exact hk w' h'
theorem uU (h : Has σ M w) (hg : op.guard = none) (m x y : Operand) (ho : op.op = .entryStore 128 m x y) {born : Nat} (hm : a.eval m = .map (some b)) (hx : a.eval x = .int .i64 (born : Nat)) (hy : a.eval y = .int .i64 v) (hb : M b = some (zH es clock)) (hborn : ∃ x ∈ es, x.born = born)
  (hk : ∀ w', Has σ (M.upd b (zH (setB born v es) clock)) w' → K (a.put op.dst undef) w') : if Region.wanted op (yielded ops a.tmps) = true then Oper.wp Tryz.prog op a w K Q else E := by
 have hw : Region.wanted op (yielded ops a.tmps) = true := by simp [Region.wanted, hg]
 rw [if_pos hw]
 obtain ⟨w', hrun, h'⟩ := qK h hb hborn v
 unfold Oper.wp
 simp [execOp, ho, hm, hx, hy, hrun, Result.andThen]
 exact hk w' h'
theorem tF (h : Has σ M w) (hg : op.guard = none) (m x : Operand) (ho : op.op = .lookup 128 m x false) (hm : a.eval m = .map (some b)) (hx : a.eval x = yF l s) (hb : M b = some (zH es clock))
  (hk : K (a.put op.dst (.int .i64 (valE l s es))) w) : if Region.wanted op (yielded ops a.tmps) = true then Oper.wp Tryz.prog op a w K Q else E := by
 have hw : Region.wanted op (yielded ops a.tmps) = true := by simp [Region.wanted, hg]
 rw [if_pos hw]
 unfold Oper.wp
 simp [execOp, ho, hm, hx, rV h hb l s, Result.andThen]
 exact hk
end
end
section
open Go.RowKit
def WardS.has (s : WardS) (l t : Int) : Bool := s.there l t && decide (0 < valE l t s.held)
def WardS.gone (s : WardS) (l t : Int) : WardS := { s with held := delE l t s.held, gens := putE l t (valE l t s.gens + 1) s.gclk s.gens, gclk := if hasE l t s.gens then s.gclk else s.gclk + 1 }
section
variable {σ w : World} {M : Mm} {p : Nat} {s : WardS}
theorem IsWard.le {M' : Mm} (h : IsWard M p s) (hle : M.le M') : IsWard M' p s := ⟨hle _ _ h.obj, hle _ _ h.held, hle _ _ h.gens, h.ne⟩
theorem drop_yes (h : Has σ M w) (hM : IsWard M p s) (l t : Int) (ht : s.has l t = true) (hst : StampE s.gens s.gclk) (hg : -1000000000 < valE l t s.gens ∧ valE l t s.gens < 1000000000) : Calls Tryz.prog 148 #[.pointer (some ⟨p, 0, none⟩), .int .i64 l, .int .i64 t] w fun r w' => r = .returned (.bool true) ∧ Has σ ((M.upd s.hb (zH (s.gone l t).held (s.gone l t).hclk)).upd s.gb (zH (s.gone l t).gens (s.gone l t).gclk)) w' := by
 have TH := Lib.hid (fun (M' : Mm) (w : World) (h : Has σ M' w) (hM : IsWard M' p s) => rO h hM l t)
 have NY := Lib.hid (fun (M' : Mm) (w : World) (h : Has σ M' w) => note_yes h p)
 unfold WardS.has at ht
 rw [Bool.and_eq_true] at ht
 obtain ⟨ht, hv⟩ := ht
 rw [ht] at TH
 have hp := hM.obj
 have hh := hM.held
 have hgn := hM.gens
 have e2 : s.cells[2]? = some (.map (some s.hb)) := rfl
 have e3 : s.cells[3]? = some (.map (some s.gb)) := rfl
 have E1 : Hid (zH (s.gone l t).held (s.gone l t).hclk = zH (delE l t s.held) s.hclk) := rfl
 have E2 : Hid (zH (s.gone l t).gens (s.gone l t).gclk = zH (putE l t (valE l t s.gens + 1) s.gclk s.gens) (if hasE l t s.gens then s.gclk else s.gclk + 1)) := rfl
 have HM := Lib.hid hM
 have SB := Lib.hid (setB_put l t (valE l t s.gens + 1) s.gclk s.gens hst)
 have BM := Lib.hid (jI l t s.gclk s.gens)
 have VP : Hid (valE l t (putE l t (valE l t s.gens) s.gclk s.gens) = valE l t s.gens) := Lib.hid (by
  generalize valE l t s.gens = v
  generalize s.gens = es
  induction es with
  | nil => simp [putE, valE]
  | cons x r ih =>
   unfold putE
   cases hx : (l == x.l && t == x.s)
   ·simp only [Bool.false_eq_true, if_false]
    unfold valE
    simp only [hx, Bool.false_eq_true, if_false, ih]
   simp only [if_true]
   unfold valE
   simp only [hx, if_true])
 have W1 : IntKind.i64.wrap (valE l t s.gens + 1) = valE l t s.gens + 1 := IntWalk.i64_in _ (by omega)
 clear hM ht hst hg
 generalize zH (s.gone l t).held (s.gone l t).hclk = row1 at E1 ⊢
 generalize zH (s.gone l t).gens (s.gone l t).gclk = row2 at E2 ⊢
 have dx : (#[.int .i64 l, .int .i64 t] : Array Value).extract 0 (0 + 2) = #[.int .i64 l, .int .i64 t] := rfl
 unfold yF at TH
 go_enter Tryz.func148, Tryz.ntmps148
 go_upto_region 2 with (fail)
 obtain ⟨M1, hbx, hle, hbq, hnx⟩ := h.box (.cells #[.int .i64 l, .int .i64 t] 126)
 generalize w.alloc _ = wx at hbx ⊢
 generalize w.heap.size = bx at hbq hnx ⊢
 clear h
 try clear w
 have h := hbx
 clear hbx
 obtain ⟨w, rfl⟩ : ∃ x : World, x = wx := ⟨_, rfl⟩
 replace hp := hle _ _ hp
 replace hh := hle _ _ hh
 replace hgn := hle _ _ hgn
 have hM1 : IsWard M1 p s := HM.out.le hle
 have TH1 := Lib.hid (fun (w : World) (h : Has σ M1 w) => TH.out M1 w h hM1)
 clear TH hM1
 have np : p ≠ s.hb := HM.out.neh
 have ng : p ≠ s.gb := HM.out.neg
 have nn := HM.out.ne
 have nb : bx ≠ s.hb := fun e => by rw [e, hh] at hbq; unfold zH at hbq; cases hbq
 have nb2 : bx ≠ s.gb := fun e => by rw [e, hgn] at hbq; unfold zH at hbq; cases hbq
 refine zS (Has σ M1) (by kernel_rfl) (by kernel_rfl) h.drew ?_
 clear h
 repeat (first
  | go_big_quiet_skip
  | (go_big_quiet_want; first
   | (refine zL 126 _ rfl rfl hbq dx rfl Tryz.underlying126 rfl (by kernel_rfl) ?_; simp only [Act.put, qD, qE, qF]; go_big_quiet_on)
   | (refine zX 128 _ rfl rfl hp e2 Tryz.underlying128 rfl ?_; simp only [Act.put, qD, qE, qF]; go_big_quiet_on)
   | (refine xG (l := l) (s := t) _ _ rfl rfl rfl hh ?_; simp only [Act.put, qD, qE, qF]; go_big_quiet_on)
   | (go_big_quiet_op; first | go_big_quiet_on | go_big_quiet_call (first | with_reducible exact fun _ => rfl | with_reducible exact TH1.out _ | with_reducible exact NY.out M1 _))))
 refine wpQuiet_nil ?_
 try clear w
 intro w h
 go_upto_region 4 with (fail)
 clear TH1 NY hv
 refine zN (Has σ M1) 5 (by kernel_rfl) (by kernel_rfl) (fun _ _ _ _ _ h => h) h.drew ?_
 clear h
 simp only [List.take_succ_cons, List.take_zero, List.drop_succ_cons, List.drop_zero]
 repeat (first
  | go_big_quiet_skip
  | (go_big_quiet_want; first
   | (refine zL 126 _ rfl rfl hbq dx rfl Tryz.underlying126 rfl (by kernel_rfl) ?_; simp only [Act.put, qD, qE, qF]; go_big_quiet_on)
   | (refine zX 128 _ rfl rfl hp e2 Tryz.underlying128 rfl ?_; simp only [Act.put, qD, qE, qF]; go_big_quiet_on)
   | (go_big_quiet_op; first | go_big_quiet_on | go_big_quiet_call (first | with_reducible exact fun _ => rfl))))
 refine wpQuiet_nil ?_
 try clear w
 intro w h
 go_upto_region 5 with (first
  | ((refine pY (l := l) (s := t) h rfl _ _ rfl rfl rfl hh ?_; clear h; intro w h)))
 rw [← E1.out] at h
 clear hh E1 e2
 have hp2 : (M1.upd s.hb row1) p = _ := (Mm.upd_ne np).trans hp
 have hb2 : (M1.upd s.hb row1) bx = _ := (Mm.upd_ne nb).trans hbq
 have hg2 : (M1.upd s.hb row1) s.gb = _ := (Mm.upd_ne nn.symm).trans hgn
 have LE : Hid (∀ o o', ((M.upd s.hb o).upd s.gb o').le ((M1.upd s.hb o).upd s.gb o')) := Lib.hid fun o o' => Mm.upd_mono (Mm.upd_mono hle _ _) _ _
 replace LE := Lib.hid (LE.out row1)
 clear hp hbq hgn hle hnx
 generalize M1.upd s.hb row1 = M2 at *
 replace h := h.drew
 have hL := Mm.drop_le M2 s.gb
 have hpL := Mm.drop_of hp2 ng
 have hbL := Mm.drop_of hb2 nb2
 have hU : ∀ o w', Has σ (M2.upd s.gb o) w' → Has σ (M2.drop s.gb) w' := fun o w' h => h.le (by
  have e := Mm.drop_upd_eq M2 s.gb o
  rw [← e]
  exact Mm.le_upd' (Mm.drop_none _ _) _)
 have UU : Hid (∀ o o', (M2.upd s.gb o).upd s.gb o' = M2.upd s.gb o') := Lib.hid fun o o' => Mm.upd_upd _ _ _ _
 have US : Hid (∀ o, (M2.upd s.gb o) s.gb = some o) := Lib.hid fun o => Mm.upd_same _ _ _
 generalize M2.drop s.gb = ML at hL hpL hbL hU
 replace hU := Lib.hid hU
 clear np ng nn nb nb2
 refine wp_region_held_drew (S := Has σ (ML)) (by kernel_rfl) (h.le hL) (fun hHeld => ?_)
 refine tkB 0 ?_
 refine tkB 1 ?_
 refine tkB 2 ?_
 try simp only [qA, qB, qC, Act.put, qD, qE, qF]
 refine tkA 3 rfl hHeld (zU rfl 128 _ rfl rfl hpL e3 Tryz.underlying128 rfl) ?_
 try simp only [qA, qB, qC, Act.put, qD, qE, qF]
 refine tkA 4 rfl hHeld (yZ rfl 126 _ rfl rfl hbL dx rfl Tryz.underlying126 rfl (by kernel_rfl)) ?_
 try simp only [qA, qB, qC, Act.put, qD, qE, qF]
 generalize w.drew = w1 at h hHeld ⊢
 clear w
 obtain ⟨w, rfl⟩ : ∃ q : World, q = w1 := ⟨_, rfl⟩
 refine wpAnyH_ready (rs := [5, 7]) (by kernel_rfl) (by simp) ?_
 refine AllReadyH.cons rfl (fun K hK => ?_) (AllReadyH.cons rfl (fun K hK => ?_) AllReadyH.nil)
 ·refine tF (l := l) (s := t) h rfl _ _ rfl rfl rfl hg2 ?_
  refine hK.out _ _ hHeld (fun hHeld => ?_)
  clear hK K
  simp only [Act.put, qD, qE, qF]
  refine tkB 6 ?_
  try simp only [qA, qB, qC, Act.put, qD, qE, qF]
  refine op1 7 rfl fun K hK => ?_
  (refine rW (l := l) (s := t) h rfl _ _ rfl rfl rfl hg2 ?_; clear h; intro w h)
  refine hK.out _ _ (hU.out _ _ h) (fun hHeld => ?_)
  clear hK K
  try simp only [Act.put, qD, qE, qF]
  refine tkB 8 ?_
  try simp only [qA, qB, qC, Act.put, qD, qE, qF]
  refine op1 9 rfl fun K hK => ?_
  (refine uU (born := vP l t s.gclk s.gens) (v := valE l t s.gens + 1) h rfl _ _ _ rfl rfl rfl rfl (US.out _) BM.out ?_; clear h; intro w h)
  refine hK.out _ _ (hU.out _ _ (by rw [UU.out] at h; exact h)) (fun hHeld => ?_)
  clear hK K
  try simp only [Act.put, qD, qE, qF]
  refine wpAnyH_done (by kernel_rfl) ?_ _
  rw [UU.out, SB.out, ← E2.out] at h
  go_wp2
  go_ret
  exact ⟨rfl, h.le (LE.out _)⟩
 refine rW (l := l) (s := t) h rfl _ _ rfl rfl rfl hg2 ?_; clear h; intro w h
 refine hK.out _ _ (hU.out _ _ h) (fun hHeld => ?_)
 clear hK K
 simp only [Act.put, qD, qE, qF]
 refine tkB 8 ?_
 try simp only [qA, qB, qC, Act.put, qD, qE, qF]
 refine op1 5 rfl fun K hK => ?_
 (refine tF (l := l) (s := t) h rfl _ _ rfl rfl rfl (US.out _) ?_; rw [VP.out])
 refine hK.out _ _ (hHeld) (fun hHeld => ?_)
 clear hK K
 try simp only [Act.put, qD, qE, qF]
 refine tkB 6 ?_
 try simp only [qA, qB, qC, Act.put, qD, qE, qF]
 refine op1 9 rfl fun K hK => ?_
 (refine uU (born := vP l t s.gclk s.gens) (v := valE l t s.gens + 1) h rfl _ _ _ rfl rfl rfl rfl (US.out _) BM.out ?_; clear h; intro w h)
 refine hK.out _ _ (hU.out _ _ (by rw [UU.out] at h; exact h)) (fun hHeld => ?_)
 clear hK K
 try simp only [Act.put, qD, qE, qF]
 refine wpAnyH_done (by kernel_rfl) ?_ _
 rw [UU.out, SB.out, ← E2.out] at h
 go_wp2
 go_ret
 exact ⟨rfl, h.le (LE.out _)⟩
def WardS.link (s : WardS) (l t : Int) : Int := if s.there l t then ((xQ t.toNat (valE l t s.gens).toNat : Nat) : Int) else 0
theorem tZ (h : Has σ M w) (hM : IsWard M p s) (l t : Int) (hsl : s.sl ≤ 1000000) (hg : 0 ≤ valE l t s.gens ∧ valE l t s.gens < 1000000000) : Calls Tryz.prog 18 #[.pointer (some ⟨p, 0, none⟩), .int .i64 l, .int .i64 t] w fun r w' => r = .returned (.int .u64 (s.link l t)) ∧ Has σ M w' := by
 have TH := Lib.hid (fun (M' : Mm) (w : World) (h : Has σ M' w) (hM : IsWard M' p s) => rO h hM l t)
 have hp := hM.obj
 have hgn := hM.gens
 have e3 : s.cells[3]? = some (.map (some s.gb)) := rfl
 have HM := Lib.hid hM
 have E : Hid (s.link l t = if s.there l t then ((xQ t.toNat (valE l t s.gens).toNat : Nat) : Int) else 0) := rfl
 rw [E.out]
 clear E
 have dx : (#[.int .i64 l, .int .i64 t] : Array Value).extract 0 (0 + 2) = #[.int .i64 l, .int .i64 t] := rfl
 have dr := hM
 cases ht : s.there l t
 ·rw [ht] at TH
  clear hM dr ht hg hsl
  unfold yF at TH
  go_enter Tryz.func18, Tryz.ntmps18
  go_upto_region 2 with (fail)
  obtain ⟨M1, hbx, hle, hbq, hnx⟩ := h.box (.cells #[.int .i64 l, .int .i64 t] 126)
  generalize w.alloc _ = wx at hbx ⊢
  generalize w.heap.size = bx at hbq hnx ⊢
  clear h
  try clear w
  have h := hbx
  clear hbx
  obtain ⟨w, rfl⟩ : ∃ x : World, x = wx := ⟨_, rfl⟩
  have hM1 : IsWard M1 p s := HM.out.le hle
  have TH1 := Lib.hid (fun (w : World) (h : Has σ M1 w) => TH.out M1 w h hM1)
  clear TH hM1
  go_wp2_with (first
   | ((with_reducible show wpList _ _ _ (⟨_, .load 126 _, _, _, _, _⟩ :: _) _ _); refine zR h rfl 126 _ rfl rfl hbq dx rfl Tryz.underlying126 rfl (by kernel_rfl) ?_; try simp only [Act.put, qD, qE, qF])
   | (go_at_call 64; refine (TH1.out _ h).mono ?_; clear h; rintro _ w ⟨rfl, hh⟩))
  go_ret
  exact ⟨rfl, hh.le hle⟩
 rw [ht] at TH
 obtain ⟨a1, a2, a3, a4⟩ := WardS.there_iff.1 ht
 obtain ⟨n, rfl⟩ : ∃ n : Nat, t = n := ⟨t.toNat, by omega⟩
 obtain ⟨g, hgg⟩ : ∃ g : Nat, valE l n s.gens = g := ⟨(valE l n s.gens).toNat, by omega⟩
 rw [hgg] at hg ⊢
 have LM := Lib.hid (fun (M' : Mm) (w : World) (h : Has σ M' w) => (sJ n g (by omega) (by omega) w).mono (R' := fun r w' => r = .returned (.int .u64 (xQ n g : Nat)) ∧ Has σ M' w') fun r w' hr => ⟨hr.1, hr.2 ▸ h⟩)
 have HG := Lib.hid hgg
 simp only [if_true, Int.toNat_natCast]
 clear hM dr ht hg hsl a1 a2 a3 a4 hgg
 unfold yF at TH
 go_enter Tryz.func18, Tryz.ntmps18
 go_upto_region 2 with (fail)
 obtain ⟨M1, hbx, hle, hbq, hnx⟩ := h.box (.cells #[.int .i64 l, .int .i64 n] 126)
 generalize w.alloc _ = wx at hbx ⊢
 generalize w.heap.size = bx at hbq hnx ⊢
 clear h
 try clear w
 have h := hbx
 clear hbx
 obtain ⟨w, rfl⟩ : ∃ x : World, x = wx := ⟨_, rfl⟩
 replace hp := hle _ _ hp
 replace hgn := hle _ _ hgn
 have hM1 : IsWard M1 p s := HM.out.le hle
 have TH1 := Lib.hid (fun (w : World) (h : Has σ M1 w) => TH.out M1 w h hM1)
 clear TH hM1
 go_upto_region 4 with (first
  | ((with_reducible show wpList _ _ _ (⟨_, .load 126 _, _, _, _, _⟩ :: _) _ _); refine zR h rfl 126 _ rfl rfl hbq dx rfl Tryz.underlying126 rfl (by kernel_rfl) ?_; try simp only [Act.put, qD, qE, qF])
  | (go_at_call 64; refine (TH1.out _ h).mono ?_; clear h; rintro _ w ⟨rfl, h⟩))
 refine zS (Has σ M1) (by kernel_rfl) (by kernel_rfl) h.drew ?_
 clear h
 repeat (first
  | go_big_quiet_skip
  | (go_big_quiet_want; first
   | (refine zL 126 _ rfl rfl hbq dx rfl Tryz.underlying126 rfl (by kernel_rfl) ?_; simp only [Act.put, qD, qE, qF]; go_big_quiet_on)
   | (refine zX 128 _ rfl rfl hp e3 Tryz.underlying128 rfl ?_; simp only [Act.put, qD, qE, qF]; go_big_quiet_on)
   | ((refine xG (l := l) (s := n) _ _ rfl rfl rfl hgn ?_; rw [HG.out]); simp only [Act.put, qD, qE, qF]; go_big_quiet_on)
   | (go_big_quiet_op; first | go_big_quiet_on | go_big_quiet_call (first | with_reducible exact fun _ => rfl | with_reducible exact LM.out M1 _))))
 refine wpQuiet_nil ?_
 try clear w
 intro w h
 go_wp2
 go_ret
 exact ⟨rfl, h.le hle⟩
end
end
section
open Go.RowKit
theorem info_gv : (Tryz.prog.info? 204).map (fun i => (i.zero, i.size, i.bytes)) = some (some (.agg #[.int .i64 0, .int .u64 0, .int .i64 0, .int .i64 0, .int .i64 0, .int .i64 0]), 6, 48) := by kernel_rfl
section
variable {P : Program} {op : Oper} {a : Act} {ops : Array Oper} {σ w : World} {M : Mm} {Q : Exit → Act → World → Prop} {K : Act → World → Prop} {E : Prop}
theorem yX (hw : Region.wanted op (yielded ops a.tmps) = true) {S : World → Prop} {v : Value} (hy : YieldsIf P ops S op v a) (h : S w) (hk : K (a.put op.dst v) w) : if Region.wanted op (yielded ops a.tmps) = true then Oper.wp P op a w K Q else E := by
 rw [if_pos hw]
 rcases hy with ⟨_, hv⟩ | ⟨hw', _⟩
 ·simp only [Oper.wp, hv w h, Oper.upon]
  exact hk
 rw [hw] at hw'; cases hw'
end
section
variable {σ w : World} {K M M' : Mm} {lab lab' : Nat → Nat} {p : Nat} {s : MachS}
theorem vF (h : Has σ M w) (hM : Mach M lab p s) : Calls Tryz.prog 17 #[.pointer (some ⟨p, 0, none⟩)] w fun r w' => r = .returned (.pointer (some ⟨s.wp, 0, none⟩)) ∧ Has σ M w' := by
 have c2 : w.cell? ⟨p, 2, none⟩ = some (.pointer (some ⟨s.wp, 0, none⟩)) := h.cell hM.obj 2
 go_enter Tryz.func17, Tryz.ntmps17
 go_wp2
 go_ret
 exact ⟨rfl, h⟩
theorem Mach.wardTo (hM : Mach M lab p s) (hB : Base K M lab) (hK : Kp (fun j => j = 3) M lab M' lab) {wd : WardS} (hw : IsWard M' s.wp wd) (e1 : wd.hb = s.ward.hb) (e2 : wd.gb = s.ward.gb) (e3 : wd.lv = s.ward.lv) (e4 : wd.sl = s.ward.sl) : Mach M' lab p { s with ward := wd } ∧ Base K M' lab := by
 obtain ⟨⟨o1, o2, h1, h2, h3, h4, h5, h6, h7, h8, h9, h10, h11, h12⟩, h13⟩ := hM
 obtain ⟨a1, a2⟩ := hK.get o1 o2 (by omega)
 obtain ⟨m1, m2⟩ := h4.keep h5 hK (by omega)
 obtain ⟨p1, p2⟩ := hK.get h2 h3 (by omega)
 refine ⟨⟨⟨a1, a2, h1, p1, p2, m1, m2, h6, hw, ⟨h8.1, ?_, ?_⟩, ⟨?_, ?_⟩, h10.keep hK (by omega), fun t p' hp => (h11 t p' hp).keep hK fun k hk => by have := hk.1; omega, h12.keep hK (by omega)⟩, h13⟩, hB.keep hK (by omega)⟩
 ·show lab wd.hb = 3; rw [e1]; exact h8.2.1
 ·show lab wd.gb = 3; rw [e2]; exact h8.2.2
 ·show wd.lv = _; rw [e3]; exact h9.1
 show wd.sl = _; rw [e4]; exact h9.2
theorem Mach.gone (hM : Mach M lab p s) (hB : Base K M lab) (l t : Int) {M' : Mm} (e : M' = (M.upd s.ward.hb (zH (s.ward.gone l t).held (s.ward.gone l t).hclk)).upd s.ward.gb (zH (s.ward.gone l t).gens (s.ward.gone l t).gclk)) : Mach M' lab p { s with ward := s.ward.gone l t } ∧ Base K M' lab := by
 subst e
 have hW := hM.ward
 have k1 : Kp (fun j => j = 3) M lab (M.upd s.ward.hb (zH (s.ward.gone l t).held (s.ward.gone l t).hclk)) lab := Kp.upd hM.wlab.2.1 _
 refine hM.wardTo hB (k1.trans (Kp.upd hM.wlab.2.2 _)) ⟨?_, ?_, Mm.upd_same _ _ _, hW.ne⟩ rfl rfl rfl rfl
 ·exact (Mm.upd_ne hW.neg).trans ((Mm.upd_ne hW.neh).trans hW.obj)
 exact (Mm.upd_ne hW.ne).trans (Mm.upd_same _ _ _)
end
end
section
open Go.RowKit
section
variable {P : Program} {ops : Array Oper} {rest : List Oper} {op : Oper} {a : Act} {σ w : World} {M : Mm} {Q : Exit → Act → World → Prop}
theorem rR (h : Has σ M w) (hg : op.guard = none) (t : TypeId) (x y : Operand) (ho : op.op = .store t x y) (hdst : op.dst = none) {b i : Nat} (hx : a.eval x = .pointer (some ⟨b, i, none⟩))
  {cs cells : Array Value} {pre old post : List Value} {e : TypeId} (hb : M b = some (.cells cs e (0, 0))) (hcs : cs.toList = pre ++ old ++ post) (hpre : pre.length = i) (hy : a.eval y = .agg cells) {n : Nat} (hs : old.length = n) (hn : cells.size = n) (hi : (P.info? t).map (·.size) = some n) (h1 : cells.toList.all (·.oneCell') = true)
  (hk : ∀ w', Has σ (M.upd b (.cells (pre ++ cells.toList ++ post).toArray e)) w' → wpList P ops Q rest a w') : wpList P ops Q (op :: rest) a w := by
 have hB : Blk w b cs e := h.at_ b _ hb
 have hB2 : Blk w b (pre ++ old ++ post).toArray e := by rw [← hcs]; exact hB
 have hlen : cs.size = pre.length + old.length + post.length := by rw [← Array.length_toList, hcs]; simp; omega
 refine wpList_store_mid hg t x y ho b i cells hx hy ?_ (by rw [hi, hn]) (by rw [Array.all_eq_true_iff_forall_mem]; exact fun x hx => List.all_eq_true.1 h1 x (by simpa using hx)) ?_
 ·intro j hj
  exact ⟨by rw [hB.cell, Array.getElem?_eq_getElem (by omega)]; rfl, hB.free _⟩
 rw [hdst]
 have hx := rX b e cells.toList i w pre old post hpre (by rw [hs, Array.length_toList, hn]) hB2
 exact hk _ (h.put (tJ b _ i w) hx)
end
def ThrS.back (x : ThrS) (us : List Int) : ThrS := { x with told := fun i => us.getD i 0, frames := x.frames.dropLast }
def words0 : Array Value := #[.int .u64 0, .int .u64 0, .int .u64 0, .int .u64 0, .int .u64 0, .int .u64 0, .int .u64 0, .int .u64 0]
theorem zwords : (Tryz.prog.info? 43).bind (·.zero) = some (.agg words0) := by kernel_rfl
def words (us : List Int) : Array Value := #[.int .u64 (us.getD 0 0), .int .u64 (us.getD 1 0), .int .u64 (us.getD 2 0), .int .u64 (us.getD 3 0), .int .u64 (us.getD 4 0), .int .u64 (us.getD 5 0), .int .u64 (us.getD 6 0), .int .u64 (us.getD 7 0)]
theorem back_cells (us : List Int) (hm : us.length ≤ 8) : (words0.toList.take 0 ++ u64s us ++ words0.toList.drop (0 + us.length)).toArray = words us := by
 have e1 : words0.toList = (List.range 8).map fun i => .int .u64 0 := rfl
 have e2 : (words us).toList = (List.range 8).map fun i => .int .u64 (us.getD i 0) := rfl
 apply Array.toList_inj.1
 rw [e2, e1]
 apply List.ext_getElem?
 intro i
 simp only [List.take_zero, List.nil_append, Nat.zero_add]
 by_cases hi : i < us.length
 ·rw [List.getElem?_append_left (by simpa [u64s] using hi)]
  simp [u64s, hi, show i < 8 by omega]
 rw [List.getElem?_append_right (by simp [u64s]; omega)]
 simp only [u64s, List.length_map, List.getElem?_drop, List.getElem?_map]
 rw [show us.length + (i - us.length) = i by omega]
 by_cases h16 : i < 8
 ·simp [h16, List.getElem?_eq_none (show us.length ≤ i by omega)]
 simp [h16]
theorem Thr.backed {M : Mm} {lab : Nat → Nat} {t p b g c : Nat} {x : ThrS} {hv : Value} {fbs : List Nat} (us : List Int) (hT : Thr M lab t p x (.slice (some ⟨g, 0, none⟩) (fbs.length + 1) c) hv (fbs ++ [b])) :
  Kp (uS t) M lab (M.upd p (.cells ((x.back us).row (.slice (some ⟨g, 0, none⟩) fbs.length c) hv) 46)) lab ∧ Thr (M.upd p (.cells ((x.back us).row (.slice (some ⟨g, 0, none⟩) fbs.length c) hv) 46)) lab t p (x.back us) (.slice (some ⟨g, 0, none⟩) fbs.length c) hv fbs := by
 have k3 : Kp (fun j => j = 10 + 4 * t) M lab (M.upd p (.cells ((x.back us).row (.slice (some ⟨g, 0, none⟩) fbs.length c) hv) 46)) lab := Kp.upd hT.mark _
 have hfl := hT.flen
 simp only [List.length_append, List.length_singleton] at hfl
 have hr := hT.frow
 refine ⟨k3.mono fun k e => by subst e; exact ⟨by omega, by omega⟩, Mm.upd_same _ _ _, hT.mark, ?_, ?_, ?_, ?_, hT.hrow.keep k3 (by omega)⟩
 ·refine Row.keep ?_ k3 (by omega)
  obtain ⟨hl, ⟨hv, h0⟩ | ⟨g', cap, cur, hv, hg, hh, r1, r2, r3, r4⟩⟩ := hr
  ·simp at hv
  simp only [Value.slice.injEq, Option.some.injEq, Addr.mk.injEq] at hv
  obtain ⟨⟨rfl, _, _⟩, _, rfl⟩ := hv
  refine ⟨by simp [ptrs], .inr ⟨g, c, cur, rfl, hg, hh, by simp at r1; omega, r2, r3, ?_⟩⟩
  simp only [List.length_append, List.length_singleton, Nat.mul_one] at r4 ⊢
  have r5 := congrArg (List.take fbs.length) r4
  rw [List.take_take, Nat.min_eq_left (by omega)] at r5
  rw [r5]
  simp [ptrs]
 ·show fbs.length = x.frames.dropLast.length
  simp; omega
 ·have := hT.nodup
  rw [List.nodup_append] at this
  exact this.1
 intro i b' f hb hf
 have hf2 : x.frames.dropLast[i]? = some f := hf
 have hi : i < fbs.length := by
  rcases Nat.lt_or_ge i fbs.length with h | h
  ·exact h
  rw [List.getElem?_eq_none h] at hb; cases hb
 have h1 : (fbs ++ [b])[i]? = some b' := by rw [List.getElem?_append_left hi]; exact hb
 have h2 : x.frames[i]? = some f := by
  rw [List.getElem?_dropLast] at hf2
  split at hf2
  ·exact hf2
  cases hf2
 obtain ⟨a1, a2⟩ := hT.frame _ _ _ h1 h2
 exact k3.get a1 a2 (by omega)
theorem pW {σ w : World} {M : Mm} {lab : Nat → Nat} {t p b : Nat} {x : ThrS} {fv hv : Value} {fbs : List Nat} (h : Has σ M w) (hT : Thr M lab t p x fv hv (fbs ++ [b])) {rv : Value} {us : List Int} (hr : Rd (M.drop p) 1 rv us.length (u64s us)) (hm : us.length ≤ 8) (hn : fbs.length < 1000000) :
  Calls Tryz.prog 93 #[.pointer (some ⟨p, 0, none⟩), rv] w fun r w' => r = .returned (.tuple #[]) ∧ ∃ M', Has σ M' w' ∧ Kp (uS t) M lab M' lab ∧ IsThr M' lab t p (x.back us) := by
 have hl : (fbs ++ [b]).length = fbs.length + 1 := by simp
 obtain ⟨g, c, rfl⟩ := Own.pos hT.frow (by rw [hl]; omega)
 rw [hl] at hT
 have hcap : fbs.length + 1 ≤ c := by
  obtain ⟨_, ⟨hv, _⟩ | ⟨g', cap, cur, hv, hg, hh, r1, r2, r3, r4⟩⟩ := hT.frow
  ·cases hv
  simp only [Value.slice.injEq, Option.some.injEq, Addr.mk.injEq] at hv
  obtain ⟨⟨rfl, _, _⟩, _, rfl⟩ := hv
  rw [hl] at r1; exact r1
 have hB := Lib.hid (hT.backed us)
 have hp := hT.obj
 have e11 : (x.row (.slice (some ⟨g, 0, none⟩) (fbs.length + 1) c) hv)[11]? = some (.slice (some ⟨g, 0, none⟩) (fbs.length + 1) c) := rfl
 have l11 : 11 < (x.row (.slice (some ⟨g, 0, none⟩) (fbs.length + 1) c) hv).size := show 11 < 13 by omega
 have EQ : Hid (∀ v, (x.row (.slice (some ⟨g, 0, none⟩) (fbs.length + 1) c) hv).setIfInBounds 11 v = x.row v hv) := Lib.hid fun v => rfl
 have hr2 : Rd (M.upd p (.cells (x.row (.slice (some ⟨g, 0, none⟩) fbs.length c) hv) 46)) 1 rv us.length (u64s us) := hr.le (Mm.drop_upd (Mm.drop_le M p) _)
 have EC := Lib.hid (back_cells us hm)
 have ER : Hid ((x.row (.slice (some ⟨g, 0, none⟩) fbs.length c) hv).toList = [] ++ (x.row (.slice (some ⟨g, 0, none⟩) fbs.length c) hv).toList.take 8 ++ (x.row (.slice (some ⟨g, 0, none⟩) fbs.length c) hv).toList.drop 8) := Lib.hid rfl
 have EW : Hid (([] ++ (words us).toList ++ (x.row (.slice (some ⟨g, 0, none⟩) fbs.length c) hv).toList.drop 8).toArray = (x.back us).row (.slice (some ⟨g, 0, none⟩) fbs.length c) hv) := Lib.hid rfl
 have E8 : Hid (((x.row (.slice (some ⟨g, 0, none⟩) fbs.length c) hv).toList.take 8).length = 8) := Lib.hid rfl
 have w8 : (words us).extract 0 (0 + 8) = words us := rfl
 have z8 : (words us).size = 8 := rfl
 have o8 : (words us).toList.all (·.oneCell') = true := rfl
 clear hT hr
 generalize hnn : fbs.length = n at *
 have g1 : IntKind.i64.wrap (((n + 1 : Nat) : Int) - 1) = (n : Nat) := by rw [show ((n + 1 : Nat) : Int) - 1 = (n : Int) by omega]; exact IntWalk.i64_in _ (by omega)
 have g2 : max (0 : Int) (n : Nat) = (n : Nat) := by omega
 have hfit : 0 + us.length ≤ words0.size := show 0 + us.length ≤ 8 by omega
 go_enter Tryz.func93, Tryz.ntmps93
 go_upto_region 1 with (fail)
 refine zN (Has σ M) 15 (by kernel_rfl) (by kernel_rfl) (fun _ _ _ _ _ h => h) h.drew ?_
 clear h
 simp only [List.take_succ_cons, List.take_zero, List.drop_succ_cons, List.drop_zero]
 repeat (first
  | go_big_quiet_skip
  | (go_big_quiet_want; first
   | (refine zX 44 _ rfl rfl hp e11 Tryz.underlying44 rfl ?_; simp only [Act.put, qD, qE, qF]; go_big_quiet_on)
   | (go_big_quiet_op; first | go_big_quiet_on | go_big_quiet_call (first | with_reducible exact fun _ => rfl))))
 refine wpQuiet_nil ?_
 try clear w
 intro w h
 go_upto_region 2 with (first
  | (with_reducible show wpList _ _ _ (⟨_, .store 44 _ _, _, _, _, _⟩ :: _) _ _; refine zV h rfl 44 _ _ rfl rfl rfl hp l11 rfl (by kernel_rfl) ?_; clear h; intro w h))
 have h0 : Has σ (M.upd p (.cells (x.row (.slice (some ⟨g, 0, none⟩) n c) hv) 46)) w := by have := h; rw [EQ.out] at this; exact this
 clear h g1 g2 e11 l11
 have h := h0
 clear h0
 have hp2 := Mm.upd_same M p (.cells (x.row (.slice (some ⟨g, 0, none⟩) n c) hv) 46)
 have UU : Hid (∀ o, (M.upd p (.cells (x.row (.slice (some ⟨g, 0, none⟩) n c) hv) 46)).upd p o = M.upd p o) := Lib.hid fun o => Mm.upd_upd _ _ _ _
 generalize M.upd p (.cells (x.row (.slice (some ⟨g, 0, none⟩) n c) hv) 46) = M1 at h hr2 hp2 UU
 go_upto_region 3 with (first
  | ((with_reducible show wpList _ _ _ (⟨_, .alloc 43, _, _, _, _⟩ :: _) _ _); refine zK h rfl 43 rfl _ zwords ?_; clear h; intro bw w h hnw; try simp only [Act.put, qD, qE, qF]))
 have hbw := Mm.upd_same M1 bw (.cells words0 43)
 have h1 : Has σ (M1.upd bw (.cells words0 43)) w := h
 have hr3 := hr2.le (Mm.le_upd' hnw (.cells words0 43))
 have VV : Hid (∀ o, (M1.upd bw (.cells words0 43)).upd bw o = M1.upd bw o) := Lib.hid fun o => Mm.upd_upd _ _ _ _
 clear h hr2
 have h := h1
 clear h1
 generalize M1.upd bw (.cells words0 43) = M2 at h hr3 hbw VV
 go_upto_region 4 with (first
  | ((with_reducible show wpList _ _ _ (⟨_, .call { callee := .builtin .copy, args := _, argTypes := _ }, _, _, _, _⟩ :: _) _ _); refine rQ h rfl _ _ 35 35 rfl rfl rfl hr3 Tryz.underlying35 lQ hbw hm hfit (u64s_one us) ?_; clear h; intro w h))
 rw [VV.out, EC.out] at h
 have hbw2 := Mm.upd_same M1 bw (.cells (words us) 43)
 have hp3 := Mm.upd_of (o := .cells (words us) 43) hnw hp2
 have LE : Hid (∀ o, (M.upd p o).le ((M1.upd bw (.cells (words us) 43)).upd p o)) := Lib.hid fun o => by
  rw [← UU.out o]
  exact Mm.upd_mono (Mm.le_upd' hnw _) p o
 clear hr3 hbw VV EC
 generalize words us = wus at h hbw2 hp3 EW w8 z8 o8 LE
 generalize M1.upd bw _ = M3 at h hbw2 hp3 LE
 go_wp2_with (first
  | ((with_reducible show wpList _ _ _ (⟨_, .load 43 _, _, _, _, _⟩ :: _) _ _); refine zR h rfl 43 _ rfl rfl hbw2 w8 z8 Tryz.underlying43 rfl (by kernel_rfl) ?_; try simp only [Act.put, qD, qE, qF])
  | ((with_reducible show wpList _ _ _ (⟨_, .store 43 _ _, _, _, _, _⟩ :: _) _ _); refine rR h rfl 43 _ _ rfl rfl rfl hp3 ER.out rfl rfl E8.out z8 (by kernel_rfl) o8 ?_; clear h; intro w h))
 go_end0
 have h2 : Has σ (M3.upd p (.cells ([] ++ wus.toList ++ (x.row (.slice (some ⟨g, 0, none⟩) n c) hv).toList.drop 8).toArray 46)) w := h
 rw [EW.out] at h2
 exact ⟨rfl, _, h2.le (LE.out _), hB.out.1, _, _, _, hB.out.2⟩
end
section
open Go.RowKit
def runC (p t q b : Nat) : Array Value := #[.pointer (some ⟨p, 0, none⟩), .int .i64 (t : Nat), .pointer (some ⟨q, 0, none⟩), .pointer (some ⟨b, 0, none⟩)]
theorem runD (p t q b : Nat) : (runC p t q b)[0]? = some (.pointer (some ⟨p, 0, none⟩)) ∧ (runC p t q b)[1]? = some (.int .i64 (t : Nat)) ∧ (runC p t q b)[2]? = some (.pointer (some ⟨q, 0, none⟩)) ∧ (runC p t q b)[3]? = some (.pointer (some ⟨b, 0, none⟩)) ∧ (runC p t q b).extract 0 (0 + 4) = runC p t q b ∧ (runC p t q b).size = 4 := ⟨rfl, rfl, rfl, rfl, rfl, rfl⟩
def SpotAt (σ : World) (M : Mm) (p t : Nat) (k i j r : Int) : Prop := ∀ (M' : Mm) (w : World), M.le M' → Has σ M' w → Calls Tryz.prog 120 #[.pointer (some ⟨p, 0, none⟩), .int .i64 (t : Nat), .agg #[.int .i64 0, .int .i64 k, .int .i64 i, .int .i64 j]] w fun e w' => e = .returned (.int .i64 r) ∧ Has σ M' w'
section
variable {σ w : World} {M : Mm} {p t q b : Nat}
theorem SpotAt.le {M' : Mm} {k i j r : Int} (h : SpotAt σ M p t k i j r) (hle : M.le M') : SpotAt σ M' p t k i j r := fun M2 w h2 hw => h M2 w (Mm.le_trans hle h2) hw
theorem rM (h : Has σ M w) {k i j r : Int} (SP : SpotAt σ M p t k i j r) : Calls Tryz.prog 140 #[.agg (runC p t q b), .int .i64 k, .int .i64 i, .int .i64 j] w fun e w' => e = .returned (.int .i64 r) ∧ Has σ M w' := by
 obtain ⟨d0, d1, -, -, -, -⟩ := runD p t q b
 go_enter Tryz.func140, Tryz.ntmps140
 go_upto_region 1 with (fail)
 obtain ⟨M1, hbx, hle, hb4, hn⟩ := h.box (.cells (runC p t q b) 190)
 generalize w.alloc _ = wx at hbx ⊢
 generalize w.heap.size = b4 at hb4 hn ⊢
 clear h
 try clear w
 have h := hbx
 clear hbx
 obtain ⟨w, rfl⟩ : ∃ x : World, x = wx := ⟨_, rfl⟩
 have SP1 := Lib.hid (fun (w : World) (h : Has σ M1 w) => SP M1 w hle h)
 clear SP
 generalize runC p t q b = rc at *
 go_wp2_with (first
  | (with_reducible show wpList _ _ _ (⟨_, .load 26 _, _, _, _, _⟩ :: _) _ _; refine zZ h rfl 26 _ rfl rfl hb4 d0 Tryz.underlying26 rfl ?_)
  | (with_reducible show wpList _ _ _ (⟨_, .load 3 _, _, _, _, _⟩ :: _) _ _; refine zZ h rfl 3 _ rfl rfl hb4 d1 Tryz.underlying3 rfl ?_)
  | (go_at_call 120; refine (SP1.out _ h).mono ?_; clear h; rintro _ w ⟨rfl, h⟩))
 go_ret
 exact ⟨rfl, h.le hle⟩
theorem wW (h : Has σ M w) {i j r : Int} (SP : SpotAt σ M p t 9 i j r) : Calls Tryz.prog 143 #[.agg (runC p t q b), .int .i64 i, .int .i64 j] w fun e w' => e = .returned (.int .i64 r) ∧ Has σ M w' := by
 obtain ⟨-, -, -, -, dx, dz⟩ := runD p t q b
 have AT := Lib.hid (fun (M' : Mm) (w : World) (h : Has σ M' w) (hle : M.le M') => rM (q := q) (b := b) h (SP.le hle))
 clear SP
 generalize runC p t q b = rc at *
 go_enter Tryz.func143, Tryz.ntmps143
 go_upto_region 1 with (fail)
 obtain ⟨M1, hbx, hle, hb4, hn⟩ := h.box (.cells rc 190)
 generalize w.alloc _ = wx at hbx ⊢
 generalize w.heap.size = b4 at hb4 hn ⊢
 clear h
 try clear w
 have h := hbx
 clear hbx
 obtain ⟨w, rfl⟩ : ∃ x : World, x = wx := ⟨_, rfl⟩
 have AT1 := Lib.hid (fun (w : World) (h : Has σ M1 w) => AT.out M1 w h hle)
 clear AT
 go_wp2_with (first
  | ((with_reducible show wpList _ _ _ (⟨_, .load 190 _, _, _, _, _⟩ :: _) _ _); refine zR h rfl 190 _ rfl rfl hb4 dx dz Tryz.underlying190 rfl (by kernel_rfl) ?_; try simp only [Act.put, qD, qE, qF])
  | (go_at_call 140; refine (AT1.out _ h).mono ?_; clear h; rintro _ w ⟨rfl, h⟩))
 go_ret
 exact ⟨rfl, h.le hle⟩
end
theorem nodup_last {l : List Nat} {b i : Nat} (h : (l ++ [b]).Nodup) (hi : (l ++ [b])[i]? = some b) : i = l.length := by
 rcases Nat.lt_or_ge i l.length with h1 | h1
 ·rw [List.getElem?_append_left h1] at hi
  have hm : b ∈ l := List.mem_of_getElem? hi
  rw [List.nodup_append] at h
  exact absurd rfl (h.2.2 b hm b (List.mem_singleton_self b))
 rw [List.getElem?_append_right h1] at hi
 rcases Nat.lt_or_ge (i - l.length) 1 with h2 | h2
 ·omega
 rw [List.getElem?_eq_none (by simpa using h2)] at hi; cases hi
theorem Thr.topped {M : Mm} {lab : Nat → Nat} {t p b : Nat} {x : ThrS} {fv hv : Value} {fbs : List Nat} {fs : List FrameS} {f : FrameS} (hT : Thr M lab t p x fv hv (fbs ++ [b])) (hx : x.frames = fs ++ [f]) (f' : FrameS) :
  M b = some (.cells f.row 69) ∧ Kp (uS t) M lab (M.upd b (.cells f'.row 69)) lab ∧ Thr (M.upd b (.cells f'.row 69)) lab t p { x with frames := fs ++ [f'] } fv hv (fbs ++ [b]) := by
 have hfl := hT.flen
 have hlen : fbs.length = fs.length := by rw [hx] at hfl; simpa using hfl
 have hlast : (fbs ++ [b])[fbs.length]? = some b := by simp
 obtain ⟨g1, g2⟩ := hT.frame fbs.length b f hlast (by rw [hx, hlen]; simp)
 have k1 : Kp (fun j => j = 12 + 4 * t) M lab (M.upd b (.cells f'.row 69)) lab := Kp.upd g2 _
 refine ⟨g1, k1.mono fun k e => by subst e; exact ⟨by omega, by omega⟩, (k1.get hT.obj hT.mark (by omega)).1, hT.mark, hT.frow.keep k1 (by omega), ?_, hT.nodup, ?_, hT.hrow.keep k1 (by omega)⟩
 ·show (fbs ++ [b]).length = (fs ++ [f']).length
  simp [hlen]
 intro i b' f1 hb hf
 have hf : (fs ++ [f'])[i]? = some f1 := hf
 by_cases e : b' = b
 ·subst e
  have hi := nodup_last hT.nodup hb
  rw [hi, hlen] at hf
  have : f' = f1 := by simpa using hf
  subst this
  exact ⟨Mm.upd_same _ _ _, g2⟩
 have hi : i ≠ fbs.length := fun h => e (by rw [h, hlast] at hb; exact (Option.some.inj hb).symm)
 have hi2 : i < fs.length := by
  rcases Nat.lt_or_ge i fs.length with h1 | h1
  ·exact h1
  rcases Nat.lt_or_ge i (fs.length + 1) with h2 | h2
  ·omega
  rw [List.getElem?_eq_none (by simp; omega)] at hf; cases hf
 have hf2 : x.frames[i]? = some f1 := by
  rw [hx, List.getElem?_append_left hi2]
  rw [List.getElem?_append_left hi2] at hf
  exact hf
 obtain ⟨a1, a2⟩ := hT.frame i b' f1 hb hf2
 exact ⟨(Mm.upd_ne e).trans a1, a2⟩
end
section
open Go.RowKit
def MemS.swaps (s : MemS) (a old : Int) : Bool := s.hit a && (s.f a.toNat == old)
def MemS.cas (s : MemS) (a old v : Int) : MemS := if s.swaps a old then s.store a v else s.at_ a
def casM (M : Mm) (p : Nat) (s : MemS) (a old v : Int) : Mm := if s.swaps a old then yA M p s a v else M.upd p (.cells (s.at_ a).cells 146)
theorem oG {σ w : World} {M : Mm} (h : Has σ M w) {p : Nat} {s : MemS} (hM : IsMem M p s) (hb : s.acc < 1000000000) (hb2 : s.wr < 1000000000) (a old v : Int) :
  Calls Tryz.prog 121 #[.pointer (some ⟨p, 0, none⟩), .int .i64 a, .int .u64 old, .int .u64 v] w fun r w' => r = .returned (.bool (s.swaps a old)) ∧ Has σ (casM M p s a old v) w' := by
 have AT := Lib.hid (lZ h hM hb a)
 have HM := Lib.hid (hM.at_ a)
 cases hh : s.hit a
 ·have W : Hid (s.swaps a old = false) := by show _ = _; unfold MemS.swaps; rw [hh]; rfl
  have R : Hid (casM M p s a old v = M.upd p (.cells (s.at_ a).cells 146)) := by show _ = _; unfold casM; rw [W.out]; rfl
  rw [R.out, W.out]
  rw [hh] at AT
  clear hh hb hb2 hM R W
  generalize M.upd p _ = M1 at AT HM ⊢
  go_enter Tryz.func121, Tryz.ntmps121
  go_wp2_with (first
   | (go_at_call 119; refine AT.out.mono ?_; clear h; rintro r w ⟨rfl, h⟩))
  go_ret
  exact ⟨rfl, h⟩
 obtain ⟨h0, h1⟩ := MemS.hit_iff.1 hh
 have hne := hM.ne
 have hrow := hM.row
 obtain ⟨k, hk0⟩ : ∃ k : Nat, a = k := ⟨a.toNat, by omega⟩
 subst hk0
 have A1 : Hid (s.at_ (k : Int) = { s with acc := s.acc + 1, last := (k : Int), named := true }) := by show _ = _; unfold MemS.at_; rw [hh]; rfl
 cases hq : (s.f k == old)
 ·have W : Hid (s.swaps (k : Int) old = false) := by show _ = _; unfold MemS.swaps; rw [hh, Int.toNat_natCast, hq]; rfl
  have R : Hid (casM M p s (k : Int) old v = M.upd p (.cells (s.at_ (k : Int)).cells 146)) := by show _ = _; unfold casM; rw [W.out]; rfl
  rw [R.out, W.out]
  rw [hh] at AT
  rw [A1.out] at AT HM ⊢
  clear A1 W R hh hM
  obtain ⟨wb, N, f, acc, wr, last, named, flt⟩ := s
  simp only at *
  have hk : k < N := by omega
  clear hb hb2 h0 h1 hrow hne
  go_enter Tryz.func121, Tryz.ntmps121
  have hp := HM.out.obj
  have hr : M.upd p (.cells (MemS.cells ⟨wb, N, f, acc + 1, wr, k, true, flt⟩) 146) wb = some (.cells (ints .u64 N f) 42) := HM.out.row
  clear HM
  generalize M.upd p _ = M1 at AT hp hr ⊢
  have d0 : (MemS.cells ⟨wb, N, f, acc + 1, wr, k, true, flt⟩)[0]? = some (.slice (some ⟨wb, 0, none⟩) N N) := rfl
  have gk : (ints .u64 N f)[k]? = some (.int .u64 (f k)) := yH hk
  have hq' : (f k != old) = true := by unfold bne; rw [hq]; rfl
  go_wp2_with (first
   | (with_reducible show wpList _ _ _ (⟨_, .load 35 _, _, _, _, _⟩ :: _) _ _; refine zZ h rfl 35 _ rfl rfl hp d0 Tryz.underlying35 rfl ?_)
   | (with_reducible show wpList _ _ _ (⟨_, .load 42 _, _, _, _, _⟩ :: _) _ _; refine zZ h rfl 42 _ rfl rfl hr gk Tryz.underlying42 rfl ?_)
   | (go_at_call 119; refine AT.out.mono ?_; clear h; rintro r w ⟨rfl, h⟩))
  go_ret
  exact ⟨rfl, h⟩
 have W : Hid (s.swaps (k : Int) old = true) := by show _ = _; unfold MemS.swaps; rw [hh, Int.toNat_natCast, hq]; rfl
 have R : Hid (casM M p s (k : Int) old v = (M.upd s.wb (s.store (k : Int) v).row).upd p (.cells (s.store (k : Int) v).cells 146)) := by show _ = _; unfold casM; rw [W.out, if_pos rfl]; unfold yA; rw [hh]; rfl
 rw [R.out, W.out]
 rw [hh] at AT
 have S1 : Hid (s.store (k : Int) v = { s with acc := s.acc + 1, last := (k : Int), named := true, f := upd s.f k v, wr := s.wr + 1 }) := by show _ = _; unfold MemS.store; rw [hh, if_pos rfl, A1.out, Int.toNat_natCast]
 rw [A1.out] at AT HM
 rw [S1.out]
 clear A1 S1 R W hh hM
 obtain ⟨wb, N, f, acc, wr, last, named, flt⟩ := s
 simp only at *
 have hk : k < N := by omega
 have w1 : IntKind.i64.wrap ((wr : Int) + 1) = ((wr + 1 : Nat) : Int) := by rw [show (wr : Int) + 1 = ((wr + 1 : Nat) : Int) by omega]; exact IntWalk.i64_in _ (by omega)
 have hq' : (f k != old) = false := by unfold bne; rw [hq]; rfl
 clear hb hb2 h0 h1
 go_enter Tryz.func121, Tryz.ntmps121
 have hp := HM.out.obj
 have hr : M.upd p (.cells (MemS.cells ⟨wb, N, f, acc + 1, wr, k, true, flt⟩) 146) wb = some (.cells (ints .u64 N f) 42) := HM.out.row
 clear HM
 generalize hM1 : M.upd p _ = M1 at AT hp hr
 have d0 : (MemS.cells ⟨wb, N, f, acc + 1, wr, k, true, flt⟩)[0]? = some (.slice (some ⟨wb, 0, none⟩) N N) := rfl
 have gk : (ints .u64 N f)[k]? = some (.int .u64 (f k)) := yH hk
 have M1E := Lib.hid hM1
 clear hM1
 go_upto_region 3 with (first | (with_reducible show wpList _ _ _ (⟨_, .load 35 _, _, _, _, _⟩ :: _) _ _; refine zZ h rfl 35 _ rfl rfl hp d0 Tryz.underlying35 rfl ?_) | (with_reducible show wpList _ _ _ (⟨_, .load 42 _, _, _, _, _⟩ :: _) _ _; refine zZ h rfl 42 _ rfl rfl hr gk Tryz.underlying42 rfl ?_) | (go_at_call 119; refine AT.out.mono ?_; clear h; rintro r w ⟨rfl, h⟩))
 clear d0 gk
 have c0 : w.cell? ⟨p, 0, none⟩ = some (.slice (some ⟨wb, 0, none⟩) N N) := h.cell hp 0
 have c2 : w.cell? ⟨p, 2, none⟩ = some (.int .i64 (wr : Nat)) := h.cell hp 2
 have f2 := h.free hp 2
 have ck : w.cell? ⟨wb, k, none⟩ = some (.int .u64 (f k)) := (h.cell hr k).trans (yH hk)
 have fk := h.free hr k
 have HP := Lib.hid hp
 have HR := Lib.hid hr
 have HN := Lib.hid hne
 have hne' : ¬ wb = p := fun e => hne e.symm
 clear hp hr AT
 go_wp2
 go_ret
 refine ⟨rfl, ?_⟩
 have k1 := (h.setCell HR.out k (.int .u64 v)).setCell ((Mm.upd_ne HN.out).trans HP.out) 2 (.int .i64 ((wr : Int) + 1))
 rw [ints_set, ← M1E.out, Mm.upd3] at k1
 exact k1
end
section
open Go.RowKit
theorem xD (top : Nat) (ht : top < 18446744073709551616) (w : World) : Calls Tryz.prog 138 #[.int .u64 top] w fun r w' => r = .returned (.int .i64 (cutN top 0 8 : Nat)) ∧ w = w' := by
 have C := Lib.hid (yN top 0 8 (by omega) (by omega) (by omega))
 have hl : cutN top 0 8 < 256 := yG top 0 8
 have u1 : IntKind.i64.wrap ((cutN top 0 8 : Nat) : Int) = ((cutN top 0 8 : Nat) : Int) := IntWalk.i64_in _ (by omega)
 generalize cutN top 0 8 = x at *
 clear ht hl
 go_enter Tryz.func138, Tryz.ntmps138
 go_wp2_with (first
  | (go_at_call 66; refine (C.out _).mono ?_; rintro r w' ⟨rfl, rfl⟩))
 go_ret
 exact ⟨rfl, rfl⟩
theorem nA (top slot : Nat) (ht : top < 18446744073709551616) (hs : slot < 9223372036854775808) (w : World) : Calls Tryz.prog 146 #[.int .u64 top, .int .i64 slot] w fun r w' => r = .returned (.int .u64 (yK slot (cutN top 8 56 + 1) : Nat)) ∧ w = w' := by
 have C := Lib.hid (yN top 8 56 (by omega) (by omega) (by omega))
 have hl : cutN top 8 56 < 72057594037927936 := yG top 8 56
 have T := Lib.hid (nR slot (cutN top 8 56 + 1) hs (by omega))
 have u1 : IntKind.u64.wrap (((cutN top 8 56 : Nat) : Int) + 1) = ((cutN top 8 56 + 1 : Nat) : Int) := by rw [show ((cutN top 8 56 : Nat) : Int) + 1 = ((cutN top 8 56 + 1 : Nat) : Int) by omega]; exact IntWalk.u64_in _ (by omega)
 generalize yK slot (cutN top 8 56 + 1) = y at T
 generalize cutN top 8 56 = x at *
 clear ht hl hs
 go_enter Tryz.func146, Tryz.ntmps146
 go_wp2_with (first
  | (go_at_call 66; refine (C.out _).mono ?_; rintro r w' ⟨rfl, rfl⟩)
  | (go_at_call 88; refine (T.out _).mono ?_; rintro r w' ⟨rfl, rfl⟩))
 go_ret
 exact ⟨rfl, rfl⟩
theorem rT (x : Nat) (hx : x < 18446744073709551616) (w : World) : Calls Tryz.prog 142 #[.int .u64 x] w fun r w' => r = .returned (.tuple #[.int .i64 (cutN x 2 32 : Nat), .int .i64 (cutN x 0 2 : Nat)]) ∧ w = w' := by
 have C1 : Hid (∀ w, Calls Tryz.prog 66 #[.int .u64 x, .int .i64 2, .int .i64 32] w fun r w' => r = .returned (.int .u64 (cutN x 2 32 : Nat)) ∧ w = w') := Lib.hid (yN x 2 32 (by omega) (by omega) (by omega))
 have C2 : Hid (∀ w, Calls Tryz.prog 66 #[.int .u64 x, .int .i64 0, .int .i64 2] w fun r w' => r = .returned (.int .u64 (cutN x 0 2 : Nat)) ∧ w = w') := Lib.hid (yN x 0 2 (by omega) (by omega) (by omega))
 have l1 : cutN x 2 32 < 4294967296 := yG x 2 32
 have l2 : cutN x 0 2 < 4 := yG x 0 2
 have u1 : IntKind.i64.wrap ((cutN x 2 32 : Nat) : Int) = ((cutN x 2 32 : Nat) : Int) := IntWalk.i64_in _ (by omega)
 have u2 : IntKind.i64.wrap ((cutN x 0 2 : Nat) : Int) = ((cutN x 0 2 : Nat) : Int) := IntWalk.i64_in _ (by omega)
 generalize cutN x 2 32 = a at *
 generalize cutN x 0 2 = b at *
 clear hx l1 l2
 go_enter Tryz.func142, Tryz.ntmps142
 go_wp2_with (fail)
 go_at_call 66
 refine (C1.out _).mono ?_
 rintro r w' ⟨rfl, rfl⟩
 go_wp2_with (first
  | (go_at_call 66; refine (C2.out _).mono ?_; rintro r w' ⟨rfl, rfl⟩))
 go_ret2
 exact ⟨rfl, rfl⟩
end
section
open Go.RowKit
def FrameS.reg (f : FrameS) (k : Nat) (v : Int) : FrameS := { f with r := upd f.r k v }
def FrameS.goto (f : FrameS) (n : Int) : FrameS := { f with at_ := n }
theorem row_reg1 (f : FrameS) (v : Int) : f.row.setIfInBounds 3 (.int .u64 v) = (f.reg 1 v).row := rfl
theorem row_reg2 (f : FrameS) (v : Int) : f.row.setIfInBounds 4 (.int .u64 v) = (f.reg 2 v).row := rfl
theorem xZ (f : FrameS) (n : Int) : f.row.setIfInBounds 1 (.int .i64 n) = (f.goto n).row := rfl
def MachS.top (s : MachS) (t : Nat) (fs : List FrameS) (f : FrameS) : MachS := { s with thr := fun j => if j = t then { s.thr t with frames := fs ++ [f] } else s.thr j }
structure AtTop (K M : Mm) (lab : Nat → Nat) (p : Nat) (s : MachS) (t q b : Nat) (fs : List FrameS) (f : FrameS) : Prop where
 mach : Mach M lab p s
 base : Base K M lab
 tp : s.tp[t]? = some q
 thr : ∃ fv hv fbs, Thr M lab t q (s.thr t) fv hv (fbs ++ [b])
 fr : (s.thr t).frames = fs ++ [f]
section
variable {K K' M M' : Mm} {lab lab' : Nat → Nat} {p t q b : Nat} {s : MachS} {fs : List FrameS} {f : FrameS}
theorem AtTop.keep (h : AtTop K M lab p s t q b fs f) {A : Nat → Prop} (hK : Kp A M lab M' lab') (hA : ∀ k, uS t k → ¬ A k) {s' : MachS} (hM : Mach M' lab' p s') (hB : Base K' M' lab') (e1 : s'.tp = s.tp) (e2 : s'.thr t = s.thr t) : AtTop K' M' lab' p s' t q b fs f := by
 obtain ⟨fv, hv, fbs, hT⟩ := h.thr
 exact ⟨hM, hB, by rw [e1]; exact h.tp, ⟨fv, hv, fbs, by rw [e2]; exact hT.keep hK hA⟩, by rw [e2]; exact h.fr⟩
theorem AtTop.less (h : AtTop K M lab p s t q b fs f) (hK : K'.le K) : AtTop K' M lab p s t q b fs f := ⟨h.mach, fun c o hc => h.base c o (hK _ _ hc), h.tp, h.thr, h.fr⟩
theorem AtTop.more1 (h : AtTop K M lab p s t q b fs f) (hle : M.le M') {c : Nat} {o : Obj} (hn : M c = none) (hb : M' c = some o) : ∃ lab', AtTop (K.upd c o) M' lab' p s t q b fs f := by
 refine ⟨_, h.keep (Kp.le hle fun _ => 0) (fun _ _ h => h) (h.mach.keep (Kp.le hle fun _ => 0) fun _ _ h => h) (fun c' o' hc => ?_) rfl rfl⟩
 by_cases e : c' = c
 ·subst e
  rw [Mm.upd_same] at hc
  cases hc
  exact ⟨hb, jZ hn _⟩
 rw [Mm.upd_ne e] at hc
 obtain ⟨h1, h2⟩ := h.base c' o' hc
 exact ⟨hle _ _ h1, by unfold sW; rw [h1]; exact h2⟩
theorem AtTop.load (h : AtTop K M lab p s t q b fs f) (a : Int) : AtTop K (M.upd s.mp (.cells (s.mem.at_ a).cells 146)) lab p { s with mem := s.mem.at_ a } t q b fs f := by
 obtain ⟨h1, h2⟩ := h.mach.load h.base a rfl
 exact h.keep (A := fun k => k = 2) (Kp.upd h.mach.mlab.1 _) (fun k hk e => by have := hk.1; omega) h1 h2 rfl rfl
theorem AtTop.frame (h : AtTop K M lab p s t q b fs f) (f' : FrameS) : M b = some (.cells f.row 69) ∧ AtTop K (M.upd b (.cells f'.row 69)) lab p (s.top t fs f') t q b fs f' := by
 obtain ⟨fv, hv, fbs, hT⟩ := h.thr
 obtain ⟨h1, h2, h3⟩ := hT.topped h.fr f'
 obtain ⟨h4, h5⟩ := h.mach.thrTo h.base h.tp h2 ⟨fv, hv, fbs ++ [b], h3⟩
 refine ⟨h1, h4, h5, h.tp, ⟨fv, hv, fbs, ?_⟩, ?_⟩
 ·show Thr _ _ _ _ (if t = t then { s.thr t with frames := fs ++ [f'] } else s.thr t) _ _ _
  rw [if_pos rfl]; exact h3
 show (if t = t then { s.thr t with frames := fs ++ [f'] } else s.thr t).frames = _
 rw [if_pos rfl]
theorem MachS.top_top (s : MachS) (t : Nat) (fs : List FrameS) (f f' : FrameS) : (s.top t fs f).top t fs f' = s.top t fs f' := by
 unfold MachS.top
 congr 1
 funext j
 by_cases e : j = t
 ·simp [e]
 simp [e]
end
theorem kC {σ w : World} {K M : Mm} {lab : Nat → Nat} {p t q b : Nat} {s : MachS} {fs : List FrameS} {f : FrameS} (h : Has σ M w) (hT : AtTop K M lab p s t q b fs f) {a : Int} (SP : SpotAt σ M p t 0 0 0 a) (hb1 : s.mem.acc < 1000000000) (next : Int) :
  Calls Tryz.prog 139 #[.agg (runC p t q b), .int .i64 next] w fun r w' => r = .returned (.tuple #[]) ∧ ∃ M' lab', Has σ M' w' ∧ AtTop K M' lab' p (MachS.top { s with mem := s.mem.at_ a } t fs ((f.reg 1 (s.mem.load a)).goto next)) t q b fs ((f.reg 1 (s.mem.load a)).goto next) := by
 obtain ⟨d0, -, -, d3, dx, dz⟩ := runD p t q b
 have AT := Lib.hid (fun (M' : Mm) (w : World) (h : Has σ M' w) (hle : M.le M') => rM (q := q) (b := b) h (SP.le hle))
 obtain ⟨v, hvv⟩ : ∃ v, s.mem.load a = v := ⟨_, rfl⟩
 rw [hvv]
 clear SP
 generalize runC p t q b = rc at *
 go_enter Tryz.func139, Tryz.ntmps139
 go_upto_region 1 with (fail)
 obtain ⟨M1, hbx, hle, hb4, hn⟩ := h.box (.cells rc 190)
 generalize w.alloc _ = wx at hbx ⊢
 generalize w.heap.size = b4 at hb4 hn ⊢
 clear h
 try clear w
 have h := hbx
 clear hbx
 obtain ⟨w, rfl⟩ : ∃ x : World, x = wx := ⟨_, rfl⟩
 obtain ⟨lab1, hT1⟩ := hT.more1 hle hn hb4
 have hnK : K b4 = none := by
  cases e : K b4 with
  | none => rfl
  | some o => have := (hT.base _ _ e).1; rw [hn] at this; cases this
 have hKK : K.le (K.upd b4 (.cells rc 190)) := Mm.le_upd' hnK _
 have hbK : (K.upd b4 (.cells rc 190)) b4 = some (.cells rc 190) := Mm.upd_same _ _ _
 have AT1 := Lib.hid (fun (w : World) (h : Has σ M1 w) => AT.out M1 w h hle)
 have ME := Lib.hid (fun (w : World) (h : Has σ M1 w) => yJ h hT1.mach)
 have LD := Lib.hid (fun (w : World) (h : Has σ M1 w) => xM h hT1.mach.mem hb1 a)
 rw [hvv] at LD
 have KL := hT1.base.le
 have hT2 := hT1.load a
 have KE := hT2.base.le
 obtain ⟨hfb, hT3⟩ := hT2.frame (f.reg 1 v)
 have KS := hT3.base.le
 obtain ⟨hfb3, hT4⟩ := hT3.frame ((f.reg 1 v).goto next)
 rw [MachS.top_top, Mm.upd_upd] at hT4
 have HT := Lib.hid (hT4.less hKK)
 have hsz : 3 < f.row.size := show 3 < 18 by omega
 have hsz3 : 1 < (f.reg 1 v).row.size := show 1 < 18 by omega
 have R1 := Lib.hid (row_reg1 f v)
 have R2 := Lib.hid (xZ (f.reg 1 v) next)
 clear hvv hT hT1 hT2 hT3 hT4 AT hb1 hn hle hnK hKK
 generalize K.upd b4 _ = K1 at KL KE KS hbK
 generalize hr0 : f.row = fr0 at hfb hsz R1
 generalize hr1 : (f.reg 1 v).row = fr1 at *
 generalize hr2 : ((f.reg 1 v).goto next).row = fr2 at *
 clear hr0 hr1 hr2
 generalize M1.upd s.mp _ = M2 at *
 refine wp_region_held_drew (S := Has σ (K1)) (by kernel_rfl) (h.drew.le KL) (fun hHeld => ?_)
 refine tkB 0 ?_
 try simp only [qA, qB, qC, Act.put, qD, qE, qF]
 refine tkA 1 rfl hHeld (zU rfl 70 _ rfl rfl hbK d3 Tryz.underlying70 rfl) ?_
 try simp only [qA, qB, qC, Act.put, qD, qE, qF]
 refine tkB 2 ?_
 try simp only [qA, qB, qC, Act.put, qD, qE, qF]
 refine tkA 3 rfl hHeld (zU rfl 26 _ rfl rfl hbK d0 Tryz.underlying26 rfl) ?_
 try simp only [qA, qB, qC, Act.put, qD, qE, qF]
 refine tkA 5 rfl hHeld (yZ rfl 190 _ rfl rfl hbK dx dz Tryz.underlying190 rfl (by kernel_rfl)) ?_
 try simp only [qA, qB, qC, Act.put, qD, qE, qF]
 refine tkB 8 ?_
 refine tkB 9 ?_
 try simp only [qA, qB, qC, Act.put, qD, qE, qF]
 replace h := h.drew
 generalize w.drew = w1 at h hHeld ⊢
 clear w
 obtain ⟨w, rfl⟩ : ∃ q : World, q = w1 := ⟨_, rfl⟩
 refine op1 4 rfl fun K hK => ?_
 (go_simp; go_wp2_with (go_at_call 46; refine (ME.out _ h).mono ?_; clear h; rintro _ w ⟨rfl, h⟩))
 refine hK.out _ _ (h.le KL) (fun hHeld => ?_)
 clear hK K
 try simp only [Act.put, qD, qE, qF]
 refine op1 6 rfl fun K hK => ?_
 (go_simp; go_wp2_with (go_at_call 140; refine (AT1.out _ h).mono ?_; clear h; rintro _ w ⟨rfl, h⟩))
 refine hK.out _ _ (h.le KL) (fun hHeld => ?_)
 clear hK K
 try simp only [Act.put, qD, qE, qF]
 refine op1 7 rfl fun K hK => ?_
 (go_simp; go_wp2_with (go_at_call 94; refine (LD.out _ h).mono ?_; clear h; rintro _ w ⟨rfl, h⟩))
 refine hK.out _ _ (h.le KE) (fun hHeld => ?_)
 clear hK K
 try simp only [Act.put, qD, qE, qF]
 refine tkB 10 ?_
 try simp only [qA, qB, qC, Act.put, qD, qE, qF]
 refine op1 11 rfl fun K hK => ?_
 (refine yR (v := .int .u64 v) h rfl 42 _ _ rfl rfl rfl hfb hsz rfl rfl (by kernel_rfl) ?_; clear h; intro w h; rw [R1.out] at h)
 refine hK.out _ _ (h.le KS) (fun hHeld => ?_)
 clear hK K
 try simp only [Act.put, qD, qE, qF]
 refine wpAnyH_done (by kernel_rfl) ?_ _
 have hb4' := KS _ _ hbK
 clear hHeld
 generalize hM3 : M2.upd b (.cells fr1 69) = M3 at h hfb3 KS hb4'
 go_wp2_with (first
  | (with_reducible show wpList _ _ _ (⟨_, .load 70 _, _, _, _, _⟩ :: _) _ _; refine zZ h rfl 70 _ rfl rfl hb4' d3 Tryz.underlying70 rfl ?_)
  | (with_reducible show wpList _ _ _ (⟨_, .store 3 _ _, _, _, _, _⟩ :: _) _ _; refine zV h rfl 3 _ _ rfl rfl rfl hfb3 hsz3 rfl (by kernel_rfl) ?_; clear h; intro w h))
 go_end0
 refine ⟨rfl, _, _, ?_, HT.out⟩
 have h0 : Has σ (M2.upd b (.cells (fr1.setIfInBounds 1 (.int .i64 next)) 69)) w := by rw [← hM3, Mm.upd_upd] at h; exact h
 rw [R2.out] at h0
 exact h0
end
section
open Go.RowKit
theorem Mm.upd_le2 {K M : Mm} (h : K.le M) {b : Nat} {o : Obj} (hb : M b = some o) : (K.upd b o).le M := fun c x hc => by
 by_cases e : c = b
 ·subst e; rw [Mm.upd_same] at hc; rw [hb, hc]
 rw [Mm.upd_ne e] at hc; exact h _ _ hc
section
variable {K M M' : Mm} {lab lab' : Nat → Nat} {p t q b : Nat} {s : MachS} {fs : List FrameS} {f : FrameS}
theorem AtTop.store (h : AtTop K M lab p s t q b fs f) (a v : Int) : AtTop K (yA M s.mp s.mem a v) lab p { s with mem := s.mem.store a v } t q b fs f := by
 obtain ⟨h1, h2⟩ := h.mach.store h.base a v
 have hk : Kp (fun k => k = 2) M lab (yA M s.mp s.mem a v) lab := by
  unfold yA
  split
  ·have k1 : Kp (fun j => j = 2) M lab (M.upd s.mem.wb (s.mem.store a v).row) lab := Kp.upd h.mach.mlab.2 _
   exact k1.trans (Kp.upd h.mach.mlab.1 _)
  exact Kp.upd h.mach.mlab.1 _
 exact h.keep hk (fun k hk e => by have := hk.1; omega) h1 h2 rfl rfl
theorem AtTop.cas (h : AtTop K M lab p s t q b fs f) (a old v : Int) : AtTop K (casM M s.mp s.mem a old v) lab p { s with mem := s.mem.cas a old v } t q b fs f := by
 unfold casM MemS.cas
 cases s.mem.swaps a old
 ·exact h.load a
 exact h.store a v
theorem AtTop.obj (h : AtTop K M lab p s t q b fs f) : M b = some (.cells f.row 69) := (h.frame f).1
end
theorem tQ {σ w : World} {K M : Mm} {lab : Nat → Nat} {p t q b : Nat} {s : MachS} {fs : List FrameS} {f : FrameS} (h : Has σ M w) (hT : AtTop K M lab p s t q b fs f) {a : Int} (SP : SpotAt σ M p t 0 0 0 a) (hb1 : s.mem.acc < 1000000000) (hb2 : s.mem.wr < 1000000000) {x slot : Nat} (hx : f.r 1 = (x : Int)) (hx64 : x < 18446744073709551616) (hs : slot < 9223372036854775808) :
  Calls Tryz.prog 141 #[.agg (runC p t q b), .int .i64 (slot : Nat)] w fun r w' => r = .returned (.bool (s.mem.swaps a x)) ∧ ∃ M' lab', Has σ M' w' ∧ AtTop K M' lab' p { s with mem := s.mem.cas a x (yK slot (cutN x 8 56 + 1) : Nat) } t q b fs f := by
 obtain ⟨d0, -, -, d3, dx, dz⟩ := runD p t q b
 have f3 : f.row[3]? = some (.int .u64 (x : Nat)) := by rw [← hx]; rfl
 have AT := Lib.hid (fun (M' : Mm) (w : World) (h : Has σ M' w) (hle : M.le M') => rM (q := q) (b := b) h (SP.le hle))
 have CH := Lib.hid (nA x slot hx64 hs)
 generalize yK slot (cutN x 8 56 + 1) = nv at *
 obtain ⟨bo, hbo⟩ : ∃ bo, s.mem.swaps a (x : Nat) = bo := ⟨_, rfl⟩
 rw [hbo]
 clear SP hx hx64 hs
 generalize runC p t q b = rc at *
 go_enter Tryz.func141, Tryz.ntmps141
 go_upto_region 1 with (fail)
 obtain ⟨M1, hbx, hle, hb4, hn⟩ := h.box (.cells rc 190)
 generalize w.alloc _ = wx at hbx ⊢
 generalize w.heap.size = b4 at hb4 hn ⊢
 clear h
 try clear w
 have h := hbx
 clear hbx
 obtain ⟨w, rfl⟩ : ∃ x : World, x = wx := ⟨_, rfl⟩
 obtain ⟨lab1, hT1⟩ := hT.more1 hle hn hb4
 have hnK : K b4 = none := by
  cases e : K b4 with
  | none => rfl
  | some o => have := (hT.base _ _ e).1; rw [hn] at this; cases this
 have hKK : K.le (K.upd b4 (.cells rc 190)) := Mm.le_upd' hnK _
 have AT1 := Lib.hid (fun (w : World) (h : Has σ M1 w) => AT.out M1 w h hle)
 have ME := Lib.hid (fun (w : World) (h : Has σ M1 w) => yJ h hT1.mach)
 have CA := Lib.hid (fun (w : World) (h : Has σ M1 w) => oG h hT1.mach.mem hb1 hb2 a x nv)
 rw [hbo] at CA
 have hT2 := hT1.cas a x nv
 have hne : b4 ≠ b := fun e => by
  subst e
  have h1 := hT1.obj
  rw [hb4] at h1
  simp only [Option.some.injEq, Obj.cells.injEq] at h1
  exact absurd h1.2.1 (by decide)
 have KL := Mm.upd_le2 hT1.base.le hT1.obj
 have KE := Mm.upd_le2 hT2.base.le hT2.obj
 have hbK : ((K.upd b4 (.cells rc 190)).upd b (.cells f.row 69)) b4 = some (.cells rc 190) := (Mm.upd_ne hne).trans (Mm.upd_same _ _ _)
 have hfK : ((K.upd b4 (.cells rc 190)).upd b (.cells f.row 69)) b = some (.cells f.row 69) := Mm.upd_same _ _ _
 have HT := Lib.hid (hT2.less hKK)
 clear hbo hT hT1 hT2 AT hb1 hb2 hn hle hnK hKK hne hb4
 generalize f.row = fr0 at *
 generalize (K.upd b4 _).upd b _ = K1 at KL KE hbK hfK
 generalize casM M1 s.mp s.mem a x nv = M2 at *
 refine wp_region_held_drew (S := Has σ (K1)) (by kernel_rfl) (h.drew.le KL) (fun hHeld => ?_)
 refine tkB 0 ?_
 try simp only [qA, qB, qC, Act.put, qD, qE, qF]
 refine tkA 1 rfl hHeld (zU rfl 26 _ rfl rfl hbK d0 Tryz.underlying26 rfl) ?_
 try simp only [qA, qB, qC, Act.put, qD, qE, qF]
 refine tkA 3 rfl hHeld (yZ rfl 190 _ rfl rfl hbK dx dz Tryz.underlying190 rfl (by kernel_rfl)) ?_
 try simp only [qA, qB, qC, Act.put, qD, qE, qF]
 refine tkB 5 ?_
 try simp only [qA, qB, qC, Act.put, qD, qE, qF]
 refine tkA 6 rfl hHeld (zU rfl 70 _ rfl rfl hbK d3 Tryz.underlying70 rfl) ?_
 try simp only [qA, qB, qC, Act.put, qD, qE, qF]
 refine tkB 7 ?_
 refine tkB 8 ?_
 refine tkB 9 ?_
 try simp only [qA, qB, qC, Act.put, qD, qE, qF]
 refine tkA 10 rfl hHeld (zU rfl 42 _ rfl rfl hfK f3 Tryz.underlying42 rfl) ?_
 try simp only [qA, qB, qC, Act.put, qD, qE, qF]
 refine tkB 11 ?_
 try simp only [qA, qB, qC, Act.put, qD, qE, qF]
 refine tkA 12 rfl hHeld (zU rfl 70 _ rfl rfl hbK d3 Tryz.underlying70 rfl) ?_
 try simp only [qA, qB, qC, Act.put, qD, qE, qF]
 refine tkB 13 ?_
 refine tkB 14 ?_
 refine tkB 15 ?_
 try simp only [qA, qB, qC, Act.put, qD, qE, qF]
 refine tkA 16 rfl hHeld (zU rfl 42 _ rfl rfl hfK f3 Tryz.underlying42 rfl) ?_
 try simp only [qA, qB, qC, Act.put, qD, qE, qF]
 refine tkB 17 ?_
 try simp only [qA, qB, qC, Act.put, qD, qE, qF]
 replace h := h.drew
 generalize w.drew = w1 at h hHeld ⊢
 clear w
 obtain ⟨w, rfl⟩ : ∃ q : World, q = w1 := ⟨_, rfl⟩
 refine op1 2 rfl fun K hK => ?_
 (go_simp; go_wp2_with (go_at_call 46; refine (ME.out _ h).mono ?_; clear h; rintro _ w ⟨rfl, h⟩))
 refine hK.out _ _ (h.le KL) (fun hHeld => ?_)
 clear hK K
 try simp only [Act.put, qD, qE, qF]
 refine op1 4 rfl fun K hK => ?_
 (go_simp; go_wp2_with (go_at_call 140; refine (AT1.out _ h).mono ?_; clear h; rintro _ w ⟨rfl, h⟩))
 refine hK.out _ _ (h.le KL) (fun hHeld => ?_)
 clear hK K
 try simp only [Act.put, qD, qE, qF]
 refine op1 18 rfl fun K hK => ?_
 (go_simp; go_wp2_with (go_at_call 146; refine (CH.out _).mono ?_; rintro _ w' ⟨rfl, rfl⟩))
 refine hK.out _ _ (h.le KL) (fun hHeld => ?_)
 clear hK K
 try simp only [Act.put, qD, qE, qF]
 refine op1 19 rfl fun K hK => ?_
 (go_simp; go_wp2_with (go_at_call 121; refine (CA.out _ h).mono ?_; clear h; rintro _ w ⟨rfl, h⟩))
 refine hK.out _ _ (h.le KE) (fun hHeld => ?_)
 clear hK K
 try simp only [Act.put, qD, qE, qF]
 refine tkB 20 ?_
 try simp only [qA, qB, qC, Act.put, qD, qE, qF]
 refine wpAnyH_done (by kernel_rfl) ?_ _
 go_wp2
 go_ret
 exact ⟨rfl, _, _, h, HT.out⟩
end
section
open Go.RowKit
theorem take_0 {σ w : World} {K M : Mm} {lab : Nat → Nat} {p t q b : Nat} {s : MachS} {fs : List FrameS} {f : FrameS} (h : Has σ M w) (hT : AtTop K M lab p s t q b fs f) (hat : f.at_ = 0) {x : Nat} (hx : f.r 1 = (x : Int)) (hx64 : x < 18446744073709551616) {a : Int} (SP : SpotAt σ M p t 0 0 0 a) (hb1 : s.mem.acc < 1000000000) :
  Calls Tryz.prog 132 #[.agg (runC p t q b)] w fun r w' => r = .returned (.tuple #[]) ∧ ∃ M' lab', Has σ M' w' ∧ AtTop K M' lab' p (MachS.top { s with mem := s.mem.at_ a } t fs ((f.reg 1 (s.mem.load a)).goto 1)) t q b fs ((f.reg 1 (s.mem.load a)).goto 1) := by
 obtain ⟨d0, d1, d2, d3, dx, dz⟩ := runD p t q b
 have f1 : f.row[1]? = some (.int .i64 0) := by rw [← hat]; rfl
 have f3 : f.row[3]? = some (.int .u64 (x : Nat)) := by rw [← hx]; rfl
 have UN := Lib.hid (xD x hx64)
 have hsl : cutN x 0 8 < 256 := yG x 0 8
 clear hx64 hat
 go_enter Tryz.func132, Tryz.ntmps132
 go_upto_region 1 with (fail)
 obtain ⟨M1, hbx, hle, hb4, hn⟩ := h.box (.cells (runC p t q b) 192)
 generalize w.alloc _ = wx at hbx ⊢
 generalize w.heap.size = b4 at hb4 hn ⊢
 clear h
 try clear w
 have h := hbx
 clear hbx
 obtain ⟨w, rfl⟩ : ∃ x : World, x = wx := ⟨_, rfl⟩
 obtain ⟨lab1, hT1⟩ := hT.more1 hle hn hb4
 have hnK : K b4 = none := by
  cases e : K b4 with
  | none => rfl
  | some o => have := (hT.base _ _ e).1; rw [hn] at this; cases this
 have hKK : K.le (K.upd b4 (.cells (runC p t q b) 192)) := Mm.le_upd' hnK _
 have hbK : (K.upd b4 (.cells (runC p t q b) 192)) b4 = some (.cells (runC p t q b) 192) := Mm.upd_same _ _ _
 have hfb := hT1.obj
 have TP := Lib.hid (fun (w : World) (h : Has σ M1 w) => kC h hT1 (SP.le hle) hb1 1)
 have HK := Lib.hid hKK
 clear hT hT1 SP hb1 hn hnK hKK hx
 generalize runC p t q b = rc at *
 generalize f.row = fr0 at *
 generalize cutN x 0 8 = sl at *
 go_wp2_with (first
  | (with_reducible show wpList _ _ _ (⟨_, .load 70 _, _, _, _, _⟩ :: _) _ _; refine zZ h rfl 70 _ rfl rfl hb4 d3 Tryz.underlying70 rfl ?_)
  | (with_reducible show wpList _ _ _ (⟨_, .load 42 _, _, _, _, _⟩ :: _) _ _; refine zZ h rfl 42 _ rfl rfl hfb f3 Tryz.underlying42 rfl ?_)
  | (with_reducible show wpList _ _ _ (⟨_, .load 3 _, _, _, _, _⟩ :: _) _ _; refine zZ h rfl 3 _ rfl rfl hfb f1 Tryz.underlying3 rfl ?_)
  | ((with_reducible show wpList _ _ _ (⟨_, .load 190 _, _, _, _, _⟩ :: _) _ _); refine zR h rfl 190 _ rfl rfl hb4 dx dz Tryz.underlying190 rfl (by kernel_rfl) ?_; try simp only [Act.put, qD, qE, qF])
  | ((go_at_call 138; refine (UN.out _).mono ?_; rintro r w' ⟨rfl, rfl⟩))
  | (go_at_call 139; refine (TP.out _ h).mono ?_; clear h; rintro _ w ⟨rfl, M2, lab2, h, hT2⟩))
 go_end0
 exact ⟨rfl, M2, lab2, h, hT2.less HK.out⟩
theorem take_1 {σ w : World} {K M : Mm} {lab : Nat → Nat} {p t q b : Nat} {s : MachS} {fs : List FrameS} {f : FrameS} (h : Has σ M w) (hT : AtTop K M lab p s t q b fs f) (hat : f.at_ = 1) {x : Nat} (hx : f.r 1 = (x : Int)) (hx64 : x < 18446744073709551616) (hs0 : cutN x 0 8 ≠ 0) {a : Int} (SP : SpotAt σ M p t 8 (cutN x 0 8 : Nat) 0 a) (hb1 : s.mem.acc < 1000000000) :
  Calls Tryz.prog 132 #[.agg (runC p t q b)] w fun r w' => r = .returned (.tuple #[]) ∧ ∃ M' lab', Has σ M' w' ∧ AtTop K M' lab' p (MachS.top { s with mem := s.mem.at_ a } t fs ((f.reg 2 (s.mem.load a)).goto 2)) t q b fs ((f.reg 2 (s.mem.load a)).goto 2) := by
 obtain ⟨d0, d1, d2, d3, dx, dz⟩ := runD p t q b
 have f1 : f.row[1]? = some (.int .i64 1) := by rw [← hat]; rfl
 have f3 : f.row[3]? = some (.int .u64 (x : Nat)) := by rw [← hx]; rfl
 have UN := Lib.hid (xD x hx64)
 have hsl : cutN x 0 8 < 256 := yG x 0 8
 clear hx64 hat
 obtain ⟨v, hvv⟩ : ∃ v, s.mem.load a = v := ⟨_, rfl⟩
 rw [hvv]
 have gs : (((cutN x 0 8 : Nat) : Int) == 0) = false := beq_eq_false_iff_ne.2 (by omega)
 have AT := Lib.hid (fun (M' : Mm) (w : World) (h : Has σ M' w) (hle : M.le M') => rM (q := q) (b := b) h (SP.le hle))
 clear SP hs0 hx
 go_enter Tryz.func132, Tryz.ntmps132
 go_upto_region 1 with (fail)
 obtain ⟨M1, hbx, hle, hb4, hn⟩ := h.box (.cells (runC p t q b) 192)
 generalize w.alloc _ = wx at hbx ⊢
 generalize w.heap.size = b4 at hb4 hn ⊢
 clear h
 try clear w
 have h := hbx
 clear hbx
 obtain ⟨w, rfl⟩ : ∃ x : World, x = wx := ⟨_, rfl⟩
 obtain ⟨lab1, hT1⟩ := hT.more1 hle hn hb4
 have hnK : K b4 = none := by
  cases e : K b4 with
  | none => rfl
  | some o => have := (hT.base _ _ e).1; rw [hn] at this; cases this
 have hKK : K.le (K.upd b4 (.cells (runC p t q b) 192)) := Mm.le_upd' hnK _
 have hbK : (K.upd b4 (.cells (runC p t q b) 192)) b4 = some (.cells (runC p t q b) 192) := Mm.upd_same _ _ _
 have hfb := hT1.obj
 have AT1 := Lib.hid (fun (w : World) (h : Has σ M1 w) => AT.out M1 w h hle)
 have ME := Lib.hid (fun (w : World) (h : Has σ M1 w) => yJ h hT1.mach)
 have LD := Lib.hid (fun (w : World) (h : Has σ M1 w) => xM h hT1.mach.mem hb1 a)
 rw [hvv] at LD
 have KL := hT1.base.le
 have hT2 := hT1.load a
 have KE := hT2.base.le
 obtain ⟨hfb2, hT3⟩ := hT2.frame (f.reg 2 v)
 have KS := hT3.base.le
 obtain ⟨hfb3, hT4⟩ := hT3.frame ((f.reg 2 v).goto 2)
 rw [MachS.top_top, Mm.upd_upd] at hT4
 have HT := Lib.hid (hT4.less hKK)
 have hsz : 4 < f.row.size := show 4 < 18 by omega
 have hsz3 : 1 < (f.reg 2 v).row.size := show 1 < 18 by omega
 have R1 := Lib.hid (row_reg2 f v)
 have R2 := Lib.hid (xZ (f.reg 2 v) 2)
 clear hvv hT hT1 hT2 hT3 hT4 AT hb1 hn hle hnK hKK
 generalize K.upd b4 _ = K1 at KL KE KS hbK
 generalize runC p t q b = rc at *
 generalize hr0 : f.row = fr0 at *
 generalize hr1 : (f.reg 2 v).row = fr1 at *
 generalize hr2 : ((f.reg 2 v).goto 2).row = fr2 at *
 generalize cutN x 0 8 = sl at *
 clear hr0 hr1 hr2
 generalize M1.upd s.mp _ = M2 at *
 go_upto_region 11 with (first
  | (with_reducible show wpList _ _ _ (⟨_, .load 70 _, _, _, _, _⟩ :: _) _ _; refine zZ h rfl 70 _ rfl rfl hb4 d3 Tryz.underlying70 rfl ?_)
  | (with_reducible show wpList _ _ _ (⟨_, .load 42 _, _, _, _, _⟩ :: _) _ _; refine zZ h rfl 42 _ rfl rfl hfb f3 Tryz.underlying42 rfl ?_)
  | (with_reducible show wpList _ _ _ (⟨_, .load 3 _, _, _, _, _⟩ :: _) _ _; refine zZ h rfl 3 _ rfl rfl hfb f1 Tryz.underlying3 rfl ?_)
  | ((go_at_call 138; refine (UN.out _).mono ?_; rintro r w' ⟨rfl, rfl⟩)))
 clear hfb hb4 UN
 refine wp_region_held_drew (S := Has σ (K1)) (by kernel_rfl) (h.drew.le KL) (fun hHeld => ?_)
 refine tkB 0 ?_
 refine tkB 1 ?_
 refine tkB 2 ?_
 try simp only [qA, qB, qC, Act.put, qD, qE, qF]
 refine tkA 3 rfl hHeld (zU rfl 26 _ rfl rfl hbK d0 Tryz.underlying26 rfl) ?_
 try simp only [qA, qB, qC, Act.put, qD, qE, qF]
 refine tkB 5 ?_
 try simp only [qA, qB, qC, Act.put, qD, qE, qF]
 refine tkA 6 rfl hHeld (yZ rfl 190 _ rfl rfl hbK dx dz Tryz.underlying190 rfl (by kernel_rfl)) ?_
 try simp only [qA, qB, qC, Act.put, qD, qE, qF]
 refine tkB 7 ?_
 refine tkB 10 ?_
 refine tkB 11 ?_
 try simp only [qA, qB, qC, Act.put, qD, qE, qF]
 replace h := h.drew
 generalize w.drew = w1 at h hHeld ⊢
 clear w
 obtain ⟨w, rfl⟩ : ∃ q : World, q = w1 := ⟨_, rfl⟩
 refine op1 4 rfl fun K hK => ?_
 (go_simp; go_wp2_with (go_at_call 46; refine (ME.out _ h).mono ?_; clear h; rintro _ w ⟨rfl, h⟩))
 refine hK.out _ _ (h.le KL) (fun hHeld => ?_)
 clear hK K
 try simp only [Act.put, qD, qE, qF]
 refine op1 8 rfl fun K hK => ?_
 (go_simp; go_wp2_with (go_at_call 140; refine (AT1.out _ h).mono ?_; clear h; rintro _ w ⟨rfl, h⟩))
 refine hK.out _ _ (h.le KL) (fun hHeld => ?_)
 clear hK K
 try simp only [Act.put, qD, qE, qF]
 refine op1 9 rfl fun K hK => ?_
 (go_simp; go_wp2_with (go_at_call 94; refine (LD.out _ h).mono ?_; clear h; rintro _ w ⟨rfl, h⟩))
 refine hK.out _ _ (h.le KE) (fun hHeld => ?_)
 clear hK K
 try simp only [Act.put, qD, qE, qF]
 refine tkB 12 ?_
 try simp only [qA, qB, qC, Act.put, qD, qE, qF]
 refine op1 13 rfl fun K hK => ?_
 (refine yR (v := .int .u64 v) h rfl 42 _ _ rfl rfl rfl hfb2 hsz rfl rfl (by kernel_rfl) ?_; clear h; intro w h; rw [R1.out] at h)
 refine hK.out _ _ (h.le KS) (fun hHeld => ?_)
 clear hK K
 try simp only [Act.put, qD, qE, qF]
 refine wpAnyH_done (by kernel_rfl) ?_ _
 clear hHeld
 generalize hM3 : M2.upd b (.cells fr1 69) = M3 at h hfb3 KS
 go_wp2_with (first
  | (with_reducible show wpList _ _ _ (⟨_, .store 3 _ _, _, _, _, _⟩ :: _) _ _; refine zV h rfl 3 _ _ rfl rfl rfl hfb3 hsz3 rfl (by kernel_rfl) ?_; clear h; intro w h))
 go_end0
 refine ⟨rfl, _, _, ?_, HT.out⟩
 have h0 : Has σ (M2.upd b (.cells (fr1.setIfInBounds 1 (.int .i64 2)) 69)) w := by rw [← hM3, Mm.upd_upd] at h; exact h
 rw [R2.out] at h0
 exact h0
end
section
open Go.RowKit
theorem IsWard.taken {M : Mm} {p : Nat} {s : WardS} (h : IsWard M p s) (l t : Int) : IsWard (M.upd s.hb (zH (s.take l t).held (s.take l t).hclk)) p (s.take l t) :=
 ⟨(Mm.upd_ne h.neh).trans h.obj, Mm.upd_same _ _ _, (Mm.upd_ne h.ne.symm).trans h.gens, h.ne⟩
theorem AtTop.took {K M : Mm} {lab : Nat → Nat} {p t q b : Nat} {s : MachS} {fs : List FrameS} {f : FrameS} (h : AtTop K M lab p s t q b fs f) (l u : Int) : AtTop K (M.upd s.ward.hb (zH (s.ward.take l u).held (s.ward.take l u).hclk)) lab p { s with ward := s.ward.take l u } t q b fs f := by
 have hk : Kp (fun j => j = 3) M lab (M.upd s.ward.hb (zH (s.ward.take l u).held (s.ward.take l u).hclk)) lab := Kp.upd h.mach.wlab.2.1 _
 obtain ⟨h1, h2⟩ := h.mach.wardTo h.base hk (h.mach.ward.taken l u) rfl rfl rfl rfl
 exact h.keep hk (fun k hk e => by have := hk.1; omega) h1 h2 rfl rfl
theorem zD {σ : World} {M : Mm} {lab : Nat → Nat} {p t lv : Nat} {s : MachS} (hM : Mach M lab p s) (hlv : zT s.c (t : Nat) = (lv : Nat)) (hlc : (lv : Int) < s.c 0) {k : Nat} {i j : Int} (hk : InK s.c k i j) : SpotAt σ M p t k i j (atK s.c lv k i j) := fun M' w hle h =>
 mSpot_yes h (hM.keep (Kp.le hle fun _ => 0) fun _ _ h => h) t lv hlv (Int.natCast_nonneg _) hlc k 0 i j hk
theorem wE (c : Nat → Int) : InK c 0 0 0 := ⟨by omega, by unfold yE; simp, by omega, by omega, fun _ => rfl, by unfold numK many yE; simp⟩
theorem take_2no {σ w : World} {K M : Mm} {lab : Nat → Nat} {p t q b lv : Nat} {s : MachS} {fs : List FrameS} {f : FrameS} (h : Has σ M w) (hT : AtTop K M lab p s t q b fs f) (hat : f.at_ = 2) {x y : Nat} (hx : f.r 1 = (x : Int)) (hx64 : x < 18446744073709551616) (hy : f.r 2 = (y : Int)) (hy63 : y < 9223372036854775808) (hlv : zT s.c (t : Nat) = (lv : Nat)) (hlc : (lv : Int) < s.c 0) (hb1 : s.mem.acc < 1000000000) (hb2 : s.mem.wr < 1000000000) (hsw : s.mem.swaps (atK s.c lv 0 0 0) x = false) :
  Calls Tryz.prog 132 #[.agg (runC p t q b)] w fun r w' => r = .returned (.tuple #[]) ∧ ∃ M' lab', Has σ M' w' ∧ AtTop K M' lab' p { s.top t fs (f.goto 0) with mem := s.mem.cas (atK s.c lv 0 0 0) x (yK y (cutN x 8 56 + 1) : Nat) } t q b fs (f.goto 0) := by
 have hx64' := hx64
 obtain ⟨d0, d1, d2, d3, dx, dz⟩ := runD p t q b
 have f1 : f.row[1]? = some (.int .i64 2) := by rw [← hat]; rfl
 have f3 : f.row[3]? = some (.int .u64 (x : Nat)) := by rw [← hx]; rfl
 have UN := Lib.hid (xD x hx64)
 have hsl : cutN x 0 8 < 256 := yG x 0 8
 clear hx64 hat
 go_enter Tryz.func132, Tryz.ntmps132
 go_upto_region 1 with (fail)
 obtain ⟨M1, hbx, hle, hb4, hn⟩ := h.box (.cells (runC p t q b) 192)
 generalize w.alloc _ = wx at hbx ⊢
 generalize w.heap.size = b4 at hb4 hn ⊢
 clear h
 try clear w
 have h := hbx
 clear hbx
 obtain ⟨w, rfl⟩ : ∃ x : World, x = wx := ⟨_, rfl⟩
 obtain ⟨lab1, hT1⟩ := hT.more1 hle hn hb4
 have hnK : K b4 = none := by
  cases e : K b4 with
  | none => rfl
  | some o => have := (hT.base _ _ e).1; rw [hn] at this; cases this
 have hKK : K.le (K.upd b4 (.cells (runC p t q b) 192)) := Mm.le_upd' hnK _
 have hbK : (K.upd b4 (.cells (runC p t q b) 192)) b4 = some (.cells (runC p t q b) 192) := Mm.upd_same _ _ _
 have hfb := hT1.obj
 have hbT := hb4
 have hsz : 1 < f.row.size := show 1 < 18 by omega
 have R0 := Lib.hid (xZ f 0)
 obtain ⟨_, hT2⟩ := hT1.frame (f.goto 0)
 have SW := Lib.hid (fun (w : World) (h : Has σ (M1.upd b (.cells (f.goto 0).row 69)) w) => tQ h hT2 (zD hT2.mach hlv hlc (wE _)) hb1 hb2 (x := x) (slot := y) hx hx64' hy63)
 have hne : b4 ≠ b := fun e => by
  subst e
  rw [hb4] at hfb
  simp only [Option.some.injEq, Obj.cells.injEq] at hfb
  exact absurd hfb.2.1 (by decide)
 have KL := Mm.upd_le2 hT2.base.le hT2.obj
 have hbK : ((K.upd b4 (.cells (runC p t q b) 192)).upd b (.cells (f.goto 0).row 69)) b4 = some (.cells (runC p t q b) 192) := (Mm.upd_ne hne).trans (Mm.upd_same _ _ _)
 have hfK : ((K.upd b4 (.cells (runC p t q b) 192)).upd b (.cells (f.goto 0).row 69)) b = some (.cells (f.goto 0).row 69) := Mm.upd_same _ _ _
 have f4 : (f.goto 0).row[4]? = some (.int .u64 (y : Nat)) := by rw [← hy]; rfl
 have uy : IntKind.i64.wrap ((y : Nat) : Int) = ((y : Nat) : Int) := IntWalk.i64_in _ (by omega)
 rw [show (s.top t fs (f.goto 0)).mem = s.mem from rfl, show (s.top t fs (f.goto 0)).c = s.c from rfl, hsw] at SW
 have HK := Lib.hid hKK
 clear hsw hx hy hKK hlv hlc hx64' hy63
 clear hT hT1 hT2 hb1 hb2 hn hle hnK hne hb4
 generalize hr0 : f.row = fr0 at *
 generalize hr1 : (f.goto 0).row = fr1 at *
 have HR1 := Lib.hid hr1
 clear hr0 hr1
 generalize runC p t q b = rc at *
 have KW0 : ∀ M9 : Mm, (K.upd b4 (.cells rc 192)).le M9 → M9 b = some (.cells fr1 69) → ((K.upd b4 (.cells rc 192)).upd b (.cells fr1 69)).le M9 := fun M9 h1 h2 => Mm.upd_le2 h1 h2
 have KX := Lib.hid KW0
 clear KW0
 have KW0 := KX.out
 clear KX
 generalize (K.upd b4 _).upd b _ = K1 at KL hbK hfK KW0
 go_upto_region 14 with (first
  | (with_reducible show wpList _ _ _ (⟨_, .load 70 _, _, _, _, _⟩ :: _) _ _; refine zZ h rfl 70 _ rfl rfl hbT d3 Tryz.underlying70 rfl ?_)
  | (with_reducible show wpList _ _ _ (⟨_, .load 42 _, _, _, _, _⟩ :: _) _ _; refine zZ h rfl 42 _ rfl rfl hfb f3 Tryz.underlying42 rfl ?_)
  | (with_reducible show wpList _ _ _ (⟨_, .load 3 _, _, _, _, _⟩ :: _) _ _; refine zZ h rfl 3 _ rfl rfl hfb f1 Tryz.underlying3 rfl ?_)
  | ((go_at_call 138; refine (UN.out _).mono ?_; rintro r w' ⟨rfl, rfl⟩)))
 go_upto_region 15 with (first
  | (with_reducible show wpList _ _ _ (⟨_, .store 3 _ _, _, _, _, _⟩ :: _) _ _; refine zV h rfl 3 _ _ rfl rfl rfl hfb hsz rfl (by kernel_rfl) ?_; clear h; intro w h))
 have h0 : Has σ (M1.upd b (.cells (fr0.setIfInBounds 1 (.int .i64 0)) 69)) w := h
 rw [R0.out] at h0
 clear h
 have h := h0
 clear h0 hfb hsz R0 UN hbT
 generalize M1.upd b _ = M2 at h KL SW
 refine wp_region_held_drew (S := Has σ (K1)) (by kernel_rfl) (h.drew.le KL) (fun hHeld => ?_)
 refine tkB 0 ?_
 try simp only [qA, qB, qC, Act.put, qD, qE, qF]
 refine tkA 1 rfl hHeld (yZ rfl 190 _ rfl rfl hbK dx dz Tryz.underlying190 rfl (by kernel_rfl)) ?_
 try simp only [qA, qB, qC, Act.put, qD, qE, qF]
 refine tkB 2 ?_
 refine tkB 3 ?_
 refine tkB 4 ?_
 refine tkB 5 ?_
 try simp only [qA, qB, qC, Act.put, qD, qE, qF]
 refine tkA 6 rfl hHeld (zU rfl 42 _ rfl rfl hfK f4 Tryz.underlying42 rfl) ?_
 try simp only [qA, qB, qC, Act.put, qD, qE, qF]
 refine tkB 7 ?_
 try simp only [qA, qB, qC, Act.put, qD, qE, qF]
 replace h := h.drew
 generalize w.drew = w1 at h hHeld ⊢
 clear w
 obtain ⟨w, rfl⟩ : ∃ q : World, q = w1 := ⟨_, rfl⟩
 refine op1 8 rfl fun K hK => ?_
 (go_simp; go_wp2_with (go_at_call 141; refine (SW.out _ h).mono ?_; clear h; rintro _ w ⟨rfl, M3, lab3, h, hT3⟩; have KE := KW0 _ hT3.base.le (by rw [← HR1.out]; exact hT3.obj)))
 refine hK.out _ _ (h.le KE) (fun hHeld => ?_)
 clear hK K
 try simp only [Act.put, qD, qE, qF]
 refine wpAnyH_done (by kernel_rfl) ?_ _
 clear hHeld
 go_wp2
 go_end0
 exact ⟨rfl, M3, lab3, h, hT3.less HK.out⟩
theorem take_2yes {σ w : World} {K M : Mm} {lab : Nat → Nat} {p t q b lv : Nat} {s : MachS} {fs : List FrameS} {f : FrameS} (h : Has σ M w) (hT : AtTop K M lab p s t q b fs f) (hat : f.at_ = 2) {x y : Nat} (hx : f.r 1 = (x : Int)) (hx64 : x < 18446744073709551616) (hy : f.r 2 = (y : Int)) (hy63 : y < 9223372036854775808) (hlv : zT s.c (t : Nat) = (lv : Nat)) (hlc : (lv : Int) < s.c 0) (hb1 : s.mem.acc < 1000000000) (hb2 : s.mem.wr < 1000000000) (hsw : s.mem.swaps (atK s.c lv 0 0 0) x = true)
  (hth : s.ward.there lv (cutN x 0 8 : Nat) = true) (hv0 : valE lv (cutN x 0 8 : Nat) s.ward.held = 0) :
  Calls Tryz.prog 132 #[.agg (runC p t q b)] w fun r w' => r = .returned (.tuple #[]) ∧ ∃ M' lab', Has σ M' w' ∧ AtTop K M' lab' p (MachS.top { s with mem := s.mem.cas (atK s.c lv 0 0 0) x (yK y (cutN x 8 56 + 1) : Nat), ward := s.ward.take lv (cutN x 0 8 : Nat) } t fs (f.goto 3)) t q b fs (f.goto 3) := by
 have hx64' := hx64
 obtain ⟨d0, d1, d2, d3, dx, dz⟩ := runD p t q b
 have f1 : f.row[1]? = some (.int .i64 2) := by rw [← hat]; rfl
 have f3 : f.row[3]? = some (.int .u64 (x : Nat)) := by rw [← hx]; rfl
 have UN := Lib.hid (xD x hx64)
 have hsl : cutN x 0 8 < 256 := yG x 0 8
 clear hx64 hat
 have TT : Hid (MachS.top { s with mem := s.mem.cas (atK s.c lv 0 0 0) x (yK y (cutN x 8 56 + 1) : Nat), ward := s.ward.take lv (cutN x 0 8 : Nat) } t fs (f.goto 3) = MachS.top { s.top t fs (f.goto 0) with mem := s.mem.cas (atK s.c lv 0 0 0) x (yK y (cutN x 8 56 + 1) : Nat), ward := s.ward.take lv (cutN x 0 8 : Nat) } t fs (f.goto 3)) := Lib.hid (by
  unfold MachS.top
  congr 1
  funext j
  by_cases e : j = t
  ·simp [e]
  simp [e])
 rw [TT.out]
 clear TT
 obtain ⟨nv, hnv⟩ : ∃ nv, yK y (cutN x 8 56 + 1) = nv := ⟨_, rfl⟩
 rw [hnv]
 obtain ⟨sl, hsl0⟩ : ∃ sl, cutN x 0 8 = sl := ⟨_, rfl⟩
 rw [hsl0] at UN hsl hth hv0 ⊢
 clear hsl0
 go_enter Tryz.func132, Tryz.ntmps132
 go_upto_region 1 with (fail)
 obtain ⟨M1, hbx, hle, hb4, hn⟩ := h.box (.cells (runC p t q b) 192)
 generalize w.alloc _ = wx at hbx ⊢
 generalize w.heap.size = b4 at hb4 hn ⊢
 clear h
 try clear w
 have h := hbx
 clear hbx
 obtain ⟨w, rfl⟩ : ∃ x : World, x = wx := ⟨_, rfl⟩
 obtain ⟨lab1, hT1⟩ := hT.more1 hle hn hb4
 have hnK : K b4 = none := by
  cases e : K b4 with
  | none => rfl
  | some o => have := (hT.base _ _ e).1; rw [hn] at this; cases this
 have hKK : K.le (K.upd b4 (.cells (runC p t q b) 192)) := Mm.le_upd' hnK _
 have hbK : (K.upd b4 (.cells (runC p t q b) 192)) b4 = some (.cells (runC p t q b) 192) := Mm.upd_same _ _ _
 have hfb := hT1.obj
 have hbT := hb4
 have hsz : 1 < f.row.size := show 1 < 18 by omega
 have R0 := Lib.hid (xZ f 0)
 obtain ⟨_, hT2⟩ := hT1.frame (f.goto 0)
 have SW := Lib.hid (fun (w : World) (h : Has σ (M1.upd b (.cells (f.goto 0).row 69)) w) => tQ h hT2 (zD hT2.mach hlv hlc (wE _)) hb1 hb2 (x := x) (slot := y) hx hx64' hy63)
 have hne : b4 ≠ b := fun e => by
  subst e
  rw [hb4] at hfb
  simp only [Option.some.injEq, Obj.cells.injEq] at hfb
  exact absurd hfb.2.1 (by decide)
 have KL := Mm.upd_le2 hT2.base.le hT2.obj
 have hbK : ((K.upd b4 (.cells (runC p t q b) 192)).upd b (.cells (f.goto 0).row 69)) b4 = some (.cells (runC p t q b) 192) := (Mm.upd_ne hne).trans (Mm.upd_same _ _ _)
 have hfK : ((K.upd b4 (.cells (runC p t q b) 192)).upd b (.cells (f.goto 0).row 69)) b = some (.cells (f.goto 0).row 69) := Mm.upd_same _ _ _
 have f4 : (f.goto 0).row[4]? = some (.int .u64 (y : Nat)) := by rw [← hy]; rfl
 have uy : IntKind.i64.wrap ((y : Nat) : Int) = ((y : Nat) : Int) := IntWalk.i64_in _ (by omega)
 rw [show (s.top t fs (f.goto 0)).mem = s.mem from rfl, show (s.top t fs (f.goto 0)).c = s.c from rfl, hsw, hnv] at SW
 have HK := Lib.hid hKK
 have HLV := Lib.hid hlv
 have HTH := Lib.hid hth
 have HV0 := Lib.hid hv0
 clear hsw hx hy hKK hlv hlc hx64' hy63 hth hv0 hnv
 clear hT hT1 hT2 hb1 hb2 hn hle hnK hne hb4
 generalize hr0 : f.row = fr0 at *
 generalize hr1 : (f.goto 0).row = fr1 at *
 have HR1 := Lib.hid hr1
 clear hr0 hr1
 generalize runC p t q b = rc at *
 have KW0 : ∀ M9 : Mm, (K.upd b4 (.cells rc 192)).le M9 → M9 b = some (.cells fr1 69) → ((K.upd b4 (.cells rc 192)).upd b (.cells fr1 69)).le M9 := fun M9 h1 h2 => Mm.upd_le2 h1 h2
 have KX := Lib.hid KW0
 clear KW0
 have KW0 := KX.out
 clear KX
 generalize (K.upd b4 _).upd b _ = K1 at KL hbK hfK KW0
 go_upto_region 14 with (first
  | (with_reducible show wpList _ _ _ (⟨_, .load 70 _, _, _, _, _⟩ :: _) _ _; refine zZ h rfl 70 _ rfl rfl hbT d3 Tryz.underlying70 rfl ?_)
  | (with_reducible show wpList _ _ _ (⟨_, .load 42 _, _, _, _, _⟩ :: _) _ _; refine zZ h rfl 42 _ rfl rfl hfb f3 Tryz.underlying42 rfl ?_)
  | (with_reducible show wpList _ _ _ (⟨_, .load 3 _, _, _, _, _⟩ :: _) _ _; refine zZ h rfl 3 _ rfl rfl hfb f1 Tryz.underlying3 rfl ?_)
  | ((go_at_call 138; refine (UN.out _).mono ?_; rintro r w' ⟨rfl, rfl⟩)))
 go_upto_region 15 with (first
  | (with_reducible show wpList _ _ _ (⟨_, .store 3 _ _, _, _, _, _⟩ :: _) _ _; refine zV h rfl 3 _ _ rfl rfl rfl hfb hsz rfl (by kernel_rfl) ?_; clear h; intro w h))
 have h0 : Has σ (M1.upd b (.cells (fr0.setIfInBounds 1 (.int .i64 0)) 69)) w := h
 rw [R0.out] at h0
 clear h
 have h := h0
 clear h0 hfb hsz R0 UN hbT
 generalize M1.upd b _ = M2 at h KL SW
 refine wp_region_held_drew (S := Has σ (K1)) (by kernel_rfl) (h.drew.le KL) (fun hHeld => ?_)
 refine tkB 0 ?_
 try simp only [qA, qB, qC, Act.put, qD, qE, qF]
 refine tkA 1 rfl hHeld (yZ rfl 190 _ rfl rfl hbK dx dz Tryz.underlying190 rfl (by kernel_rfl)) ?_
 try simp only [qA, qB, qC, Act.put, qD, qE, qF]
 refine tkB 2 ?_
 refine tkB 3 ?_
 refine tkB 4 ?_
 refine tkB 5 ?_
 try simp only [qA, qB, qC, Act.put, qD, qE, qF]
 refine tkA 6 rfl hHeld (zU rfl 42 _ rfl rfl hfK f4 Tryz.underlying42 rfl) ?_
 try simp only [qA, qB, qC, Act.put, qD, qE, qF]
 refine tkB 7 ?_
 try simp only [qA, qB, qC, Act.put, qD, qE, qF]
 replace h := h.drew
 generalize w.drew = w1 at h hHeld ⊢
 clear w
 obtain ⟨w, rfl⟩ : ∃ q : World, q = w1 := ⟨_, rfl⟩
 refine op1 8 rfl fun K hK => ?_
 (go_simp; go_wp2_with (go_at_call 141; refine (SW.out _ h).mono ?_; clear h; rintro _ w ⟨rfl, M3, lab3, h, hT3⟩; have KE := KW0 _ hT3.base.le (by rw [← HR1.out]; exact hT3.obj)))
 refine hK.out _ _ (h.le KE) (fun hHeld => ?_)
 clear hK K
 try simp only [Act.put, qD, qE, qF]
 refine wpAnyH_done (by kernel_rfl) ?_ _
 clear hHeld
 have WA := Lib.hid (fun (w : World) (h : Has σ M3 w) => vF h hT3.mach)
 have LV : Hid (∀ w : World, Has σ M3 w → Calls Tryz.prog 12 #[.pointer (some ⟨p, 0, none⟩), .int .i64 (t : Nat)] w fun r w' => r = .returned (.int .i64 (lv : Nat)) ∧ Has σ M3 w') := Lib.hid fun w h => (vV h hT3.mach t).mono fun r w' ⟨e, h'⟩ => ⟨e.trans (congrArg (fun z => Ending.returned (Value.int .i64 z)) HLV.out), h'⟩
 have TKE := Lib.hid (fun (w : World) (h : Has σ M3 w) => take_yes h hT3.mach.ward lv (sl : Nat) HTH.out HV0.out)
 have hT4 := hT3.took lv (sl : Nat)
 have hfb4 := hT4.obj
 rw [HR1.out] at hfb4
 have KW : K1.le (M3.upd s.ward.hb (zH (s.ward.take lv (sl : Nat)).held (s.ward.take lv (sl : Nat)).hclk)) := KW0 _ hT4.base.le hfb4
 obtain ⟨_, hT5⟩ := hT4.frame ((f.goto 0).goto 3)
 have HT := Lib.hid (hT5.less HK.out)
 have R3 := Lib.hid (xZ (f.goto 0) 3)
 rw [HR1.out] at R3
 have hsz4 : 1 < fr1.size := by rw [← HR1.out]; show 1 < 18; omega
 replace TKE : Hid (∀ w : World, Has σ M3 w → Calls Tryz.prog 54 #[.pointer (some ⟨s.wp, 0, none⟩), .int .i64 (lv : Nat), .int .i64 (sl : Nat)] w fun r w' => r = .returned (.bool true) ∧ Has σ (M3.upd s.ward.hb (zH (s.ward.take lv (sl : Nat)).held (s.ward.take lv (sl : Nat)).hclk)) w') := TKE
 replace WA : Hid (∀ w : World, Has σ M3 w → Calls Tryz.prog 17 #[.pointer (some ⟨p, 0, none⟩)] w fun r w' => r = .returned (.pointer (some ⟨s.wp, 0, none⟩)) ∧ Has σ M3 w') := WA
 replace hfb4 : (M3.upd s.ward.hb (zH (s.ward.take lv (sl : Nat)).held (s.ward.take lv (sl : Nat)).hclk)) b = some (.cells fr1 69) := hfb4
 replace HT : Hid (AtTop K ((M3.upd s.ward.hb (zH (s.ward.take lv (sl : Nat)).held (s.ward.take lv (sl : Nat)).hclk)).upd b (.cells ((f.goto 0).goto 3).row 69)) lab3 p _ t q b fs (f.goto 3)) := HT
 clear hT3 hT4 hT5 HK HR1 HTH HV0 HLV KW0
 generalize M3.upd s.ward.hb _ = M4 at *
 generalize ((f.goto 0).goto 3).row = fr3 at *
 go_upto_region 16 with (fail)
 refine wp_region_held_drew (S := Has σ (K1)) (by kernel_rfl) (h.drew.le KE) (fun hHeld => ?_)
 refine tkB 0 ?_
 refine tkB 1 ?_
 try simp only [qA, qB, qC, Act.put, qD, qE, qF]
 refine tkA 2 rfl hHeld (zU rfl 26 _ rfl rfl hbK d0 Tryz.underlying26 rfl) ?_
 try simp only [qA, qB, qC, Act.put, qD, qE, qF]
 refine tkB 4 ?_
 refine tkB 5 ?_
 try simp only [qA, qB, qC, Act.put, qD, qE, qF]
 refine tkA 6 rfl hHeld (zU rfl 26 _ rfl rfl hbK d0 Tryz.underlying26 rfl) ?_
 try simp only [qA, qB, qC, Act.put, qD, qE, qF]
 refine tkB 7 ?_
 refine tkB 8 ?_
 try simp only [qA, qB, qC, Act.put, qD, qE, qF]
 refine tkA 9 rfl hHeld (zU rfl 3 _ rfl rfl hbK d1 Tryz.underlying3 rfl) ?_
 try simp only [qA, qB, qC, Act.put, qD, qE, qF]
 refine tkB 11 ?_
 try simp only [qA, qB, qC, Act.put, qD, qE, qF]
 replace h := h.drew
 generalize w.drew = w1 at h hHeld ⊢
 clear w
 obtain ⟨w, rfl⟩ : ∃ q : World, q = w1 := ⟨_, rfl⟩
 refine op1 3 rfl fun K hK => ?_
 (go_simp; go_wp2_with (go_at_call 17; refine (WA.out _ h).mono ?_; clear h; rintro _ w ⟨rfl, h⟩))
 refine hK.out _ _ (h.le KE) (fun hHeld => ?_)
 clear hK K
 try simp only [Act.put, qD, qE, qF]
 refine op1 10 rfl fun K hK => ?_
 (go_simp; go_wp2_with (go_at_call 12; refine (LV.out _ h).mono ?_; clear h; rintro _ w ⟨rfl, h⟩))
 refine hK.out _ _ (h.le KE) (fun hHeld => ?_)
 clear hK K
 try simp only [Act.put, qD, qE, qF]
 refine op1 12 rfl fun K hK => ?_
 (go_simp; go_wp2_with (go_at_call 54; refine (TKE.out _ h).mono ?_; clear h; rintro _ w ⟨rfl, h⟩))
 refine hK.out _ _ (h.le KW) (fun hHeld => ?_)
 clear hK K
 try simp only [Act.put, qD, qE, qF]
 refine wpAnyH_done (by kernel_rfl) ?_ _
 clear hHeld
 go_wp2_with (first
  | (with_reducible show wpList _ _ _ (⟨_, .store 3 _ _, _, _, _, _⟩ :: _) _ _; refine zV h rfl 3 _ _ rfl rfl rfl hfb4 hsz4 rfl (by kernel_rfl) ?_; clear h; intro w h))
 go_end0
 refine ⟨rfl, _, _, ?_, HT.out⟩
 have h0 : Has σ (M4.upd b (.cells (fr1.setIfInBounds 1 (.int .i64 3)) 69)) w := h
 rw [R3.out] at h0
 exact h0
end
section
open Go.RowKit
def MachS.backed (s : MachS) (t : Nat) (us : List Int) : MachS := { s with thr := fun j => if j = t then (s.thr t).back us else s.thr j }
theorem kX {σ w : World} {K M M2 : Mm} {lab : Nat → Nat} {p t q b bl : Nat} {s : MachS} {fs : List FrameS} {f : FrameS} {v0 v1 : Int} (h : Has σ M2 w) (hT : AtTop K M lab p s t q b fs f) (hle : M.le M2) (hn : M bl = none) (hbl : M2 bl = some (.cells #[.int .u64 v0, .int .u64 v1] 42)) (hfs : fs.length < 1000000) :
  Calls Tryz.prog 93 #[.pointer (some ⟨q, 0, none⟩), .slice (some ⟨bl, 0, none⟩) 2 2] w fun r w' => r = .returned (.tuple #[]) ∧ ∃ M' lab', Has σ M' w' ∧ Mach M' lab' p (s.backed t [v0, v1]) ∧ Base K M' lab' := by
 obtain ⟨lab2, hT2⟩ := hT.more1 hle hn hbl
 obtain ⟨fv, hv, fbs, hTh⟩ := hT2.thr
 have hne : bl ≠ q := fun e => by
  subst e
  have h1 := hTh.obj
  rw [hbl] at h1
  simp only [Option.some.injEq, Obj.cells.injEq] at h1
  exact absurd h1.2.1 (by decide)
 have hnK : K bl = none := by
  cases e : K bl with
  | none => rfl
  | some o => have := (hT.base _ _ e).1; rw [hn] at this; cases this
 have hrd : Rd (M2.drop q) 1 (.slice (some ⟨bl, 0, none⟩) 2 2) [v0, v1].length (u64s [v0, v1]) := ⟨rfl, _, _, rfl, Nat.le_refl _, fun _ => ⟨bl, 0, _, _, _, rfl, (if_neg hne).trans hbl, fun j u hu => by simpa [u64s] using hu⟩⟩
 have hlen : fbs.length = fs.length := by
  have h1 := hTh.flen
  rw [hT2.fr] at h1
  simpa using h1
 refine (pW h hTh hrd (by simp) (by omega)).mono fun r w' ⟨e, M', h', hK, hI⟩ => ?_
 obtain ⟨h4, h5⟩ := hT2.mach.thrTo hT2.base hT2.tp hK hI
 exact ⟨e, M', lab2, h', h4, fun c o hc => h5 c o (Mm.le_upd' hnK _ _ _ hc)⟩
theorem take_1end {σ w : World} {K M : Mm} {lab : Nat → Nat} {p t q b : Nat} {s : MachS} {fs : List FrameS} {f : FrameS} (h : Has σ M w) (hT : AtTop K M lab p s t q b fs f) (hat : f.at_ = 1) {x : Nat} (hx : f.r 1 = (x : Int)) (hx64 : x < 18446744073709551616) (hs0 : cutN x 0 8 = 0) (hfs : fs.length < 1000000) :
  Calls Tryz.prog 132 #[.agg (runC p t q b)] w fun r w' => r = .returned (.tuple #[]) ∧ ∃ M' lab', Has σ M' w' ∧ Mach M' lab' p (s.backed t [0, 0]) ∧ Base K M' lab' := by
 obtain ⟨d0, d1, d2, d3, dx, dz⟩ := runD p t q b
 have f1 : f.row[1]? = some (.int .i64 1) := by rw [← hat]; rfl
 have f3 : f.row[3]? = some (.int .u64 (x : Nat)) := by rw [← hx]; rfl
 have UN := Lib.hid (xD x hx64)
 have hsl : cutN x 0 8 < 256 := yG x 0 8
 clear hx64 hat
 rw [hs0] at UN
 clear hsl hs0 hx
 go_enter Tryz.func132, Tryz.ntmps132
 go_upto_region 1 with (fail)
 obtain ⟨M1, hbx, hle, hb4, hn⟩ := h.box (.cells (runC p t q b) 192)
 generalize w.alloc _ = wx at hbx ⊢
 generalize w.heap.size = b4 at hb4 hn ⊢
 clear h
 try clear w
 have h := hbx
 clear hbx
 obtain ⟨w, rfl⟩ : ∃ x : World, x = wx := ⟨_, rfl⟩
 obtain ⟨lab1, hT1⟩ := hT.more1 hle hn hb4
 have hnK : K b4 = none := by
  cases e : K b4 with
  | none => rfl
  | some o => have := (hT.base _ _ e).1; rw [hn] at this; cases this
 have hKK : K.le (K.upd b4 (.cells (runC p t q b) 192)) := Mm.le_upd' hnK _
 have hbK : (K.upd b4 (.cells (runC p t q b) 192)) b4 = some (.cells (runC p t q b) 192) := Mm.upd_same _ _ _
 have hfb := hT1.obj
 have BK := Lib.hid (fun (M2 : Mm) (w : World) (bl : Nat) (h : Has σ M2 w) (hle : M1.le M2) (hn : M1 bl = none) (hbl : M2 bl = some (.cells #[.int .u64 0, .int .u64 0] 42)) => kX h hT1 hle hn hbl hfs)
 have HK := Lib.hid hKK
 clear hT hT1 hn hle hnK hKK hbK hfs
 generalize f.row = fr0 at *
 generalize runC p t q b = rc at *
 go_upto_region 10 with (first
  | (with_reducible show wpList _ _ _ (⟨_, .load 70 _, _, _, _, _⟩ :: _) _ _; refine zZ h rfl 70 _ rfl rfl hb4 d3 Tryz.underlying70 rfl ?_)
  | (with_reducible show wpList _ _ _ (⟨_, .load 42 _, _, _, _, _⟩ :: _) _ _; refine zZ h rfl 42 _ rfl rfl hfb f3 Tryz.underlying42 rfl ?_)
  | (with_reducible show wpList _ _ _ (⟨_, .load 3 _, _, _, _, _⟩ :: _) _ _; refine zZ h rfl 3 _ rfl rfl hfb f1 Tryz.underlying3 rfl ?_)
  | ((go_at_call 138; refine (UN.out _).mono ?_; rintro r w' ⟨rfl, rfl⟩)))
 go_wp2_with (first
  | (with_reducible show wpList _ _ _ (⟨_, .load 38 _, _, _, _, _⟩ :: _) _ _; refine zZ h rfl 38 _ rfl rfl hb4 d2 Tryz.underlying38 rfl ?_))
 obtain ⟨M2, hbx, hle2, hbl, hnl⟩ := h.box (.cells #[.int .u64 0, .int .u64 0] 42)
 generalize w.alloc _ = wx at hbx ⊢
 generalize w.heap.size = bl at hbl hnl ⊢
 clear h
 try clear w
 have h := hbx
 clear hbx
 obtain ⟨w, rfl⟩ : ∃ x : World, x = wx := ⟨_, rfl⟩
 go_wp2_with (first
  | ((go_at_call 93; refine (BK.out M2 _ bl h hle2 hnl hbl).mono ?_; clear h; rintro _ w ⟨rfl, M3, lab3, h, hM3, hB3⟩)))
 exact bodyPost_ret (results_none rfl _ _ _) rfl ⟨rfl, M3, lab3, h, hM3, fun c o hc => hB3 c o (HK.out _ _ hc)⟩
theorem take_3 {σ w : World} {K M : Mm} {lab : Nat → Nat} {p t q b lv : Nat} {s : MachS} {fs : List FrameS} {f : FrameS} (h : Has σ M w) (hT : AtTop K M lab p s t q b fs f) (hat : f.at_ = 3) {x z : Nat} (hx : f.r 1 = (x : Int)) (hx64 : x < 18446744073709551616) (hlv : zT s.c (t : Nat) = (lv : Nat)) (hlc : (lv : Int) < s.c 0) (hin : InK s.c 9 (cutN x 0 8 : Nat) 0) (hz : s.mem.load (atK s.c lv 9 (cutN x 0 8 : Nat) 0) = (z : Int)) (hz64 : z < 18446744073709551616) (hb1 : s.mem.acc < 1000000000) (hfs : fs.length < 1000000) :
  Calls Tryz.prog 132 #[.agg (runC p t q b)] w fun r w' => r = .returned (.tuple #[]) ∧ ∃ M' lab', Has σ M' w' ∧ Mach M' lab' p (MachS.backed { s with mem := s.mem.at_ (atK s.c lv 9 (cutN x 0 8 : Nat) 0) } t [(cutN x 0 8 : Nat), (cutN z 2 32 : Nat)]) ∧ Base K M' lab' := by
 obtain ⟨d0, d1, d2, d3, dx, dz⟩ := runD p t q b
 have f1 : f.row[1]? = some (.int .i64 3) := by rw [← hat]; rfl
 have f3 : f.row[3]? = some (.int .u64 (x : Nat)) := by rw [← hx]; rfl
 have UN := Lib.hid (xD x hx64)
 have hsl : cutN x 0 8 < 256 := yG x 0 8
 clear hx64 hat
 have HS := Lib.hid (rT z hz64)
 have lz : cutN z 2 32 < 4294967296 := yG z 2 32
 have SPA := zD (σ := σ) hT.mach hlv hlc hin
 obtain ⟨a, ha⟩ : ∃ a, atK s.c lv 9 (cutN x 0 8 : Nat) 0 = a := ⟨_, rfl⟩
 rw [ha] at hz SPA ⊢
 obtain ⟨sl, hsl0⟩ : ∃ sl, cutN x 0 8 = sl := ⟨_, rfl⟩
 rw [hsl0] at UN hsl SPA ⊢
 obtain ⟨g1, hg1⟩ : ∃ g, cutN z 2 32 = g := ⟨_, rfl⟩
 rw [hg1] at HS lz ⊢
 generalize cutN z 0 2 = g2 at HS
 have us : IntKind.u64.wrap ((sl : Nat) : Int) = ((sl : Nat) : Int) := IntWalk.u64_in _ (by omega)
 have ug : IntKind.u64.wrap ((g1 : Nat) : Int) = ((g1 : Nat) : Int) := IntWalk.u64_in _ (by omega)
 have ND := Lib.hid (fun (M' : Mm) (w : World) (h : Has σ M' w) (hle : M.le M') => wW (q := q) (b := b) h (SPA.le hle))
 clear hx ha hsl0 hg1 hlv hlc hin SPA hz64
 go_enter Tryz.func132, Tryz.ntmps132
 go_upto_region 1 with (fail)
 obtain ⟨M1, hbx, hle, hb4, hn⟩ := h.box (.cells (runC p t q b) 192)
 generalize w.alloc _ = wx at hbx ⊢
 generalize w.heap.size = b4 at hb4 hn ⊢
 clear h
 try clear w
 have h := hbx
 clear hbx
 obtain ⟨w, rfl⟩ : ∃ x : World, x = wx := ⟨_, rfl⟩
 obtain ⟨lab1, hT1⟩ := hT.more1 hle hn hb4
 have hnK : K b4 = none := by
  cases e : K b4 with
  | none => rfl
  | some o => have := (hT.base _ _ e).1; rw [hn] at this; cases this
 have hKK : K.le (K.upd b4 (.cells (runC p t q b) 192)) := Mm.le_upd' hnK _
 have hbK : (K.upd b4 (.cells (runC p t q b) 192)) b4 = some (.cells (runC p t q b) 192) := Mm.upd_same _ _ _
 have hfb := hT1.obj
 have ND1 := Lib.hid (fun (w : World) (h : Has σ M1 w) => ND.out M1 w h hle)
 have ME := Lib.hid (fun (w : World) (h : Has σ M1 w) => yJ h hT1.mach)
 have LD := Lib.hid (fun (w : World) (h : Has σ M1 w) => xM h hT1.mach.mem hb1 a)
 rw [hz] at LD
 have KL := hT1.base.le
 have hT2 := hT1.load a
 have KE := hT2.base.le
 have BK := Lib.hid (fun (M2 : Mm) (w : World) (bl : Nat) (h : Has σ M2 w) (hle : (M1.upd s.mp (.cells (s.mem.at_ a).cells 146)).le M2) (hn : (M1.upd s.mp (.cells (s.mem.at_ a).cells 146)) bl = none) (hbl : M2 bl = some (.cells #[.int .u64 (sl : Nat), .int .u64 (g1 : Nat)] 42)) => kX h hT2 hle hn hbl hfs)
 have HK := Lib.hid hKK
 clear hT hT1 hT2 hn hle hnK hKK hfs hb1 hz ND
 generalize f.row = fr0 at *
 generalize runC p t q b = rc at *
 generalize M1.upd s.mp _ = M2 at *
 generalize K.upd b4 _ = K1 at *
 go_upto_region 4 with (first
  | (with_reducible show wpList _ _ _ (⟨_, .load 70 _, _, _, _, _⟩ :: _) _ _; refine zZ h rfl 70 _ rfl rfl hb4 d3 Tryz.underlying70 rfl ?_)
  | (with_reducible show wpList _ _ _ (⟨_, .load 42 _, _, _, _, _⟩ :: _) _ _; refine zZ h rfl 42 _ rfl rfl hfb f3 Tryz.underlying42 rfl ?_)
  | (with_reducible show wpList _ _ _ (⟨_, .load 3 _, _, _, _, _⟩ :: _) _ _; refine zZ h rfl 3 _ rfl rfl hfb f1 Tryz.underlying3 rfl ?_)
  | ((go_at_call 138; refine (UN.out _).mono ?_; rintro r w' ⟨rfl, rfl⟩)))
 clear hfb hb4 UN
 refine wp_region_held_drew (S := Has σ (K1)) (by kernel_rfl) (h.drew.le KL) (fun hHeld => ?_)
 refine tkB 0 ?_
 refine tkB 1 ?_
 try simp only [qA, qB, qC, Act.put, qD, qE, qF]
 refine tkA 2 rfl hHeld (zU rfl 26 _ rfl rfl hbK d0 Tryz.underlying26 rfl) ?_
 try simp only [qA, qB, qC, Act.put, qD, qE, qF]
 refine tkB 4 ?_
 try simp only [qA, qB, qC, Act.put, qD, qE, qF]
 refine tkA 5 rfl hHeld (yZ rfl 190 _ rfl rfl hbK dx dz Tryz.underlying190 rfl (by kernel_rfl)) ?_
 try simp only [qA, qB, qC, Act.put, qD, qE, qF]
 refine tkB 6 ?_
 try simp only [qA, qB, qC, Act.put, qD, qE, qF]
 replace h := h.drew
 generalize w.drew = w1 at h hHeld ⊢
 clear w
 obtain ⟨w, rfl⟩ : ∃ q : World, q = w1 := ⟨_, rfl⟩
 refine op1 3 rfl fun K hK => ?_
 (go_simp; go_wp2_with (go_at_call 46; refine (ME.out _ h).mono ?_; clear h; rintro _ w ⟨rfl, h⟩))
 refine hK.out _ _ (h.le KL) (fun hHeld => ?_)
 clear hK K
 try simp only [Act.put, qD, qE, qF]
 refine op1 7 rfl fun K hK => ?_
 (go_simp; go_wp2_with (go_at_call 143; refine (ND1.out _ h).mono ?_; clear h; rintro _ w ⟨rfl, h⟩))
 refine hK.out _ _ (h.le KL) (fun hHeld => ?_)
 clear hK K
 try simp only [Act.put, qD, qE, qF]
 refine op1 8 rfl fun K hK => ?_
 (go_simp; go_wp2_with (go_at_call 94; refine (LD.out _ h).mono ?_; clear h; rintro _ w ⟨rfl, h⟩))
 refine hK.out _ _ (h.le KE) (fun hHeld => ?_)
 clear hK K
 try simp only [Act.put, qD, qE, qF]
 refine op1 9 rfl fun K hK => ?_
 (go_simp; go_wp2_with (go_at_call 142; refine (HS.out _).mono ?_; rintro _ w' ⟨rfl, rfl⟩))
 refine hK.out _ _ (h.le KE) (fun hHeld => ?_)
 clear hK K
 try simp only [Act.put, qD, qE, qF]
 refine tkB 10 ?_
 refine tkB 11 ?_
 refine tkB 12 ?_
 refine tkB 13 ?_
 refine tkB 14 ?_
 try simp only [qA, qB, qC, Act.put, qD, qE, qF]
 refine wpAnyH_done (by kernel_rfl) ?_ _
 clear hHeld
 have hb4' := KE _ _ hbK
 go_wp2_with (first
  | (with_reducible show wpList _ _ _ (⟨_, .load 38 _, _, _, _, _⟩ :: _) _ _; refine zZ h rfl 38 _ rfl rfl hb4' d2 Tryz.underlying38 rfl ?_))
 obtain ⟨M3, hbx, hle3, hbl, hnl⟩ := h.box (.cells #[.int .u64 (sl : Nat), .int .u64 (g1 : Nat)] 42)
 generalize w.alloc _ = wx at hbx ⊢
 generalize w.heap.size = bl at hbl hnl ⊢
 clear h
 try clear w
 have h := hbx
 clear hbx
 obtain ⟨w, rfl⟩ : ∃ x : World, x = wx := ⟨_, rfl⟩
 go_wp2_with (first
  | ((go_at_call 93; refine (BK.out M3 _ bl h hle3 hnl hbl).mono ?_; clear h; rintro _ w ⟨rfl, M4, lab4, h, hM4, hB4⟩)))
 go_end0
 exact ⟨rfl, M4, lab4, h, hM4, fun c o hc => hB4 c o (HK.out _ _ hc)⟩
end
section
open Go.RowKit
theorem AtTop.of {K M : Mm} {lab : Nat → Nat} {p t q : Nat} {s : MachS} {fs : List FrameS} {f : FrameS} (hM : Mach M lab p s) (hB : Base K M lab) (hq : s.tp[t]? = some q) (hf : (s.thr t).frames = fs ++ [f]) : ∃ b, AtTop K M lab p s t q b fs f := by
 obtain ⟨fv, hv, fbs, hT⟩ := hM.each t q hq
 have hl := hT.flen
 rw [hf] at hl
 rcases List.eq_nil_or_concat fbs with he | ⟨l, b, he⟩
 ·rw [he] at hl; simp at hl
 rw [List.concat_eq_append] at he
 subst he
 exact ⟨b, hM, hB, hq, ⟨fv, hv, l, hT⟩, hf⟩
section
variable {σ w : World} {K M : Mm} {lab : Nat → Nat} {p t q : Nat} {s : MachS}
theorem zrun : (Tryz.prog.info? 190).bind (·.zero) = some (.agg #[.pointer none, .int .i64 0, .pointer none, .pointer none]) := by kernel_rfl
end
end
end Go.Proofs.YtjeeldacnllipaaGreat
