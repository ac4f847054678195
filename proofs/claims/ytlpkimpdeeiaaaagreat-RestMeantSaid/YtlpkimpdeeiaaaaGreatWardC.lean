/- Walks of layer 7 (warden): a slot is dropped; a slot's link. -/
import Derived.Test.YtlpkimpdeeiaaaaGreatWardB
import Derived.Test.YtlpkimpdeeiaaaaGreatMachN
namespace Go.Proofs.YtlpkimpdeeiaaaaGreat
open Go.RowKit Go.Instr
set_option linter.unusedVariables false
set_option linter.unusedSimpArgs false
set_option linter.unnecessarySimpa false
/-- A spot's first entry is gone. -/
def delE (l s : Int) : List Ent → List Ent
  | [] => []
  | x :: r => if l == x.l && s == x.s then r else x :: delE l s r
theorem findE_del (l s : Int) : ∀ (es : List Ent) (i : Nat), (findE l s es i = none ∧ hasE l s es = false) ∨ (∃ j, findE l s es i = some (i + j, .int .i64 (valE l s es)) ∧ (es.map Ent.e).eraseIdx j = (delE l s es).map Ent.e)
  | [], i => .inl ⟨rfl, rfl⟩
  | x :: r, i => by
    unfold findE hasE valE delE
    cases h : (l == x.l && s == x.s)
    · rcases findE_del l s r (i + 1) with ⟨h1, h2⟩ | ⟨j, h1, h2⟩
      · exact .inl ⟨by simpa using h1, by simpa using h2⟩
      · refine .inr ⟨j + 1, ?_, ?_⟩
        · simp only [Bool.false_eq_true, if_false]
          rw [h1]
          congr 2
          omega
        · simp only [Bool.false_eq_true, if_false, List.map_cons, List.eraseIdx_cons_succ, h2]
    · exact .inr ⟨0, by simp, by simp⟩
/-- What an entry's stamp is, when it is stored. -/
def bornE (l s : Int) (clock : Nat) : List Ent → Nat
  | [] => clock
  | x :: r => if l == x.l && s == x.s then x.born else bornE l s clock r
def setB (b : Nat) (v : Int) : List Ent → List Ent
  | [] => []
  | x :: r => if x.born = b then { x with v := v } :: r else x :: setB b v r
/-- Stamps tell entries apart. -/
def StampE (es : List Ent) (clock : Nat) : Prop := (∀ x ∈ es, x.born < clock) ∧ (es.map (·.born)).Nodup
theorem bornE_in (l s : Int) (clock : Nat) : ∀ es : List Ent, bornE l s clock es = clock ∨ bornE l s clock es ∈ es.map (·.born)
  | [] => .inl rfl
  | x :: r => by
    unfold bornE
    cases h : (l == x.l && s == x.s)
    · rcases bornE_in l s clock r with h | h
      · exact .inl h
      · exact .inr (List.mem_cons_of_mem _ h)
    · exact .inr (by simp)
theorem StampE.tail {x : Ent} {r : List Ent} {clock : Nat} (h : StampE (x :: r) clock) : StampE r clock := ⟨fun y hy => h.1 y (List.mem_cons_of_mem _ hy), by have := h.2; simp only [List.map_cons, List.nodup_cons] at this; exact this.2⟩
theorem setB_put (l s v : Int) (clock : Nat) : ∀ es : List Ent, StampE es clock → setB (bornE l s clock es) v (putE l s (valE l s es) clock es) = putE l s v clock es
  | [], _ => by simp [bornE, putE, valE, setB]
  | x :: r, h => by
    unfold bornE putE valE
    cases hx : (l == x.l && s == x.s)
    · have hne : x.born ≠ bornE l s clock r := by
        rcases bornE_in l s clock r with e | e
        · have := h.1 x (by simp); omega
        · intro e2
          have := h.2
          simp only [List.map_cons, List.nodup_cons] at this
          rw [← e2] at e
          exact this.1 e
      simp only [Bool.false_eq_true, if_false]
      unfold setB
      rw [if_neg hne, setB_put l s v clock r h.tail]
    · simp [setB]
theorem bornE_mem (l s : Int) (clock : Nat) : ∀ es : List Ent, ∃ x ∈ putE l s (valE l s es) clock es, x.born = bornE l s clock es
  | [] => ⟨⟨l, s, 0, clock⟩, by simp [putE, valE], rfl⟩
  | x :: r => by
    unfold bornE putE valE
    cases hx : (l == x.l && s == x.s)
    · obtain ⟨y, h1, h2⟩ := bornE_mem l s clock r
      exact ⟨y, by simpa using .inr h1, by simpa using h2⟩
    · exact ⟨{ x with v := x.v }, by simp, by simp⟩
theorem findB (b : Nat) (v : Int) : ∀ es : List Ent, (∃ x ∈ es, x.born = b) → ∃ j, (es.map Ent.e).findIdx? (fun e => (e.born : Int) == (b : Int)) = some j ∧ (es.map Ent.e).modify j (fun e => { e with val := .int .i64 v }) = (setB b v es).map Ent.e
  | [], h => by simp at h
  | x :: r, h => by
    unfold setB
    by_cases hx : x.born = b
    · refine ⟨0, ?_, ?_⟩
      · simp [List.findIdx?_cons, Ent.e, hx]
      · simp [hx, Ent.e]
    · have h2 : ∃ x ∈ r, x.born = b := by
        obtain ⟨y, hy, e⟩ := h
        rcases List.mem_cons.1 hy with rfl | hy
        · exact absurd e hx
        · exact ⟨y, hy, e⟩
      obtain ⟨j, h3, h4⟩ := findB b v r h2
      refine ⟨j + 1, ?_, ?_⟩
      · have hx2 : ((x.born : Int) == (b : Int)) = false := by simp only [beq_eq_false_iff_ne, ne_eq, Int.natCast_inj]; exact hx
        rw [List.map_cons, List.findIdx?_cons]
        simp only [show (Ent.e x).born = x.born from rfl, hx2, h3]
        simp
      · simp only [hx, if_false, List.map_cons, List.modify_succ_cons, h4]
theorem modify_self (es : List MapEntry) : ∀ (j : Nat) (f : MapEntry → MapEntry), (∀ x, es[j]? = some x → f x = x) → es.modify j f = es := by
  induction es with
  | nil => intro j f _; simp
  | cons x r ih =>
    intro j f hf
    cases j with
    | zero => simp [hf x (by simp)]
    | succ j => simp [ih j f fun y hy => hf y (by simpa using hy)]
theorem findE_put (l s : Int) (clock : Nat) : ∀ (es : List Ent) (i : Nat), hasE l s es = true → ∃ j x, findE l s es i = some (i + j, .int .i64 (valE l s es)) ∧ (es.map Ent.e)[j]? = some (Ent.e x) ∧ x.l = l ∧ x.s = s ∧ x.born = bornE l s clock es ∧ putE l s (valE l s es) clock es = es
  | [], i, h => by cases h
  | x :: r, i, h => by
    unfold hasE at h
    unfold findE valE bornE putE
    cases hx : (l == x.l && s == x.s)
    · rw [hx, Bool.false_or] at h
      obtain ⟨j, y, h1, h2, h3, h4, h5, h6⟩ := findE_put l s clock r (i + 1) h
      refine ⟨j + 1, y, ?_, by simpa using h2, h3, h4, by simpa using h5, by simpa using h6⟩
      simp only [Bool.false_eq_true, if_false]
      rw [h1]
      congr 2
      omega
    · simp only [Bool.and_eq_true, beq_iff_eq] at hx
      obtain ⟨rfl, rfl⟩ := hx
      exact ⟨0, x, by simp, by simp, rfl, rfl, by simp, by simp⟩
section
variable {o op : Oper} {a : Act} {ops : Array Oper} {rest : List Oper} {σ w : World} {M : Mm} {Q : Exit → Act → World → Prop} {K : Act → World → Prop} {E : Prop} {b : Nat} {es : List Ent} {clock : Nat} {l s v : Int}
theorem Has.obj (h : Has σ M w) {ob : Obj} (hb : M b = some ob) (o : Obj) : Has σ (M.upd b o) { w with heap := w.heap.setIfInBounds b o } :=
  h.put ⟨rfl, rfl, rfl, by simp, fun k hk => by simp [Array.getElem?_setIfInBounds, Ne.symm hk]⟩ (by simp [lt_of_block (h.at_ b _ hb)])
theorem run_delete_spot (h : Has σ M w) (hb : M b = some (mapRow es clock)) (l s : Int) (ty : TypeId) : ∃ w', (Builtin.delete_ #[106, 114] ty #[.map (some b), spotV l s]).run Tryz.prog w = .ok (.tuple #[]) w' ∧ Has σ (M.upd b (mapRow (delE l s es) clock)) w' := by
  have hw := h.at_ b _ hb
  unfold Builtin.delete_
  simp only [List.getElem?_toArray, List.getElem?_cons_zero, List.getElem?_cons_succ, Sem.run_bind, run_underlying Tryz.underlying106, Result.andThen_ok, MapKept.run_getObj_map hw, check_key, find_key]
  rcases findE_del l s es 0 with ⟨h1, h2⟩ | ⟨j, h1, h2⟩
  · rw [h1]
    have e : delE l s es = es := by
      have : ∀ es : List Ent, hasE l s es = false → delE l s es = es := by
        intro es
        induction es with
        | nil => intro _; rfl
        | cons x r ih =>
          intro h
          unfold hasE at h
          simp only [Bool.or_eq_false_iff] at h
          unfold delE
          rw [if_neg (by rw [h.1]; exact Bool.false_ne_true), ih h.2]
      exact this es h2
    rw [e]
    simp only [Sem.run_bind, MapKept.run_setObj_map _ hw, Result.andThen_ok, Sem.run_pure]
    exact ⟨_, rfl, h.obj hb _⟩
  · rw [h1]
    have e : mapRow (delE l s es) clock = .map ((es.map Ent.e).toArray.eraseIdxIfInBounds (0 + j)) clock := by
      unfold mapRow
      rw [← h2, Nat.zero_add]
      simp
    rw [e]
    simp only [Sem.run_bind, MapKept.run_setObj_map _ hw, Result.andThen_ok, Sem.run_pure]
    exact ⟨_, rfl, h.obj hb _⟩
theorem wpList_delete_spot (h : Has σ M w) (hg : op.guard = none) (m x : Operand) (ho : op.op = .call { callee := .builtin .delete, args := #[m, x], argTypes := #[106, 114] }) (hm : a.eval m = .map (some b)) (hx : a.eval x = spotV l s) (hb : M b = some (mapRow es clock))
    (hk : ∀ w', Has σ (M.upd b (mapRow (delE l s es) clock)) w' → wpList Tryz.prog ops Q rest (a.put op.dst (.tuple #[])) w') : wpList Tryz.prog ops Q (op :: rest) a w := by
  obtain ⟨w', hr, h'⟩ := run_delete_spot h hb l s op.type
  refine wpList_plain hg fun _ hK => ?_
  unfold Oper.wp execOp
  simp only [ho, resolve, invoke, builtin, Sem.run_bind, Sem.run_pure, Result.andThen_ok, List.map_toArray, List.map_cons, List.map_nil, hm, hx, hr]
  exact hK _ _ (hk w' h')
theorem run_entry_spot (h : Has σ M w) (hb : M b = some (mapRow es clock)) (l s : Int) : ∃ w', (Instr.mapEntry 106 (.map (some b)) (spotV l s)).run Tryz.prog w = .ok (.tuple #[.int .i64 (valE l s es), .int .i64 (bornE l s clock es : Nat)]) w' ∧ Has σ (M.upd b (mapRow (putE l s (valE l s es) clock es) (if hasE l s es then clock else clock + 1))) w' := by
  have hw := h.at_ b _ hb
  unfold Instr.mapEntry
  simp only [Sem.run_bind, run_underlying Tryz.underlying106, Result.andThen_ok, MapKept.run_getObj_map hw, check_key, find_key]
  cases hh : hasE l s es
  · rcases findE_val l s es 0 with ⟨h1, _, h3⟩ | ⟨j, _, h2⟩
    · rw [h1]
      have hbn : bornE l s clock es = clock := by
        have : ∀ es : List Ent, hasE l s es = false → bornE l s clock es = clock := by
          intro es
          induction es with
          | nil => intro _; rfl
          | cons x r ih =>
            intro h
            unfold hasE at h
            simp only [Bool.or_eq_false_iff] at h
            unfold bornE
            rw [if_neg (by rw [h.1]; exact Bool.false_ne_true), ih h.2]
        exact this es hh
      rw [putE_none l s _ clock es hh, h3, hbn]
      have e : mapRow (es ++ [⟨l, s, 0, clock⟩]) (clock + 1) = .map ((es.map Ent.e).toArray.push { key := spotV l s, val := .int .i64 0, born := clock }) (clock + 1) := by
        unfold mapRow
        simp [Ent.e]
      simp only [Bool.false_eq_true, if_false, Sem.run_bind, zero_int, Result.andThen_ok, MapKept.run_setObj_map _ hw, Sem.run_pure]
      rw [e]
      exact ⟨_, rfl, h.obj hb _⟩
    · rw [hh] at h2; cases h2
  · obtain ⟨j, x, h1, h2, h3, h4, h5, h6⟩ := findE_put l s clock es 0 hh
    rw [h1]
    have hkey : (((es.map Ent.e).toArray[0 + j]?).map (·.key)).getD (spotV l s) = spotV l s := by
      rw [Nat.zero_add]
      simp only [List.getElem?_toArray]
      rw [h2]
      simp only [Option.map_some, Option.getD_some, Ent.e, h3, h4]
    have hborn : (((es.map Ent.e).toArray[0 + j]?).map (fun x => (x.born : Int))).getD 0 = (bornE l s clock es : Nat) := by
      rw [Nat.zero_add]
      simp only [List.getElem?_toArray]
      rw [h2]
      simp only [Option.map_some, Option.getD_some, Ent.e, h5]
    simp only [hkey, hborn, goInt, keyThatStays, same_bits, if_true, Sem.run_bind, Sem.run_pure, Result.andThen_ok, MapKept.run_setObj_map _ hw]
    refine ⟨_, rfl, ?_⟩
    have e : mapRow (putE l s (valE l s es) clock es) clock = .map ((es.map Ent.e).toArray.modify (0 + j) fun e => { e with key := spotV l s }) clock := by
      unfold mapRow
      rw [h6, Nat.zero_add]
      have := modify_self (es.map Ent.e) j (fun e => { e with key := spotV l s }) (fun y hy => by
        rw [h2] at hy
        simp only [Option.some.injEq] at hy
        subst hy
        simp [Ent.e, h3, h4])
      rw [List.modify_toArray, this]
    rw [e]
    exact h.obj hb _
theorem run_entryStore_spot (h : Has σ M w) {born : Nat} (hb : M b = some (mapRow es clock)) (hborn : ∃ x ∈ es, x.born = born) (v : Int) : ∃ w', (Instr.entryStore 106 (.map (some b)) (.int .i64 (born : Nat)) (.int .i64 v)).run Tryz.prog w = .ok () w' ∧ Has σ (M.upd b (mapRow (setB born v es) clock)) w' := by
  have hw := h.at_ b _ hb
  obtain ⟨j, h1, h2⟩ := findB born v es hborn
  unfold Instr.entryStore
  simp only [Sem.run_bind, Result.andThen_ok, MapKept.run_getObj_map hw, asInt, asIntOf, Sem.run_pure, List.findIdx?_toArray, h1, MapKept.run_setObj_map _ hw]
  refine ⟨_, rfl, ?_⟩
  have e : mapRow (setB born v es) clock = .map ((es.map Ent.e).toArray.modify j fun e => { e with val := .int .i64 v }) clock := by
    unfold mapRow
    rw [← h2]
    simp
  rw [e]
  exact h.obj hb _
theorem step_entry_spot (h : Has σ M w) (hg : op.guard = none) (m x : Operand) (ho : op.op = .mapEntry 106 m x) (hm : a.eval m = .map (some b)) (hx : a.eval x = spotV l s) (hb : M b = some (mapRow es clock))
    (hk : ∀ w', Has σ (M.upd b (mapRow (putE l s (valE l s es) clock es) (if hasE l s es then clock else clock + 1))) w' → K (a.put op.dst (.tuple #[.int .i64 (valE l s es), .int .i64 (bornE l s clock es : Nat)])) w') : if Region.wanted op (yielded ops a.tmps) = true then Oper.wp Tryz.prog op a w K Q else E := by
  have hw : Region.wanted op (yielded ops a.tmps) = true := by simp [Region.wanted, hg]
  rw [if_pos hw]
  obtain ⟨w', hrun, h'⟩ := run_entry_spot h hb l s
  unfold Oper.wp
  simp [execOp, ho, hm, hx, hrun, Result.andThen]
  exact hk w' h'
theorem step_entryStore_spot (h : Has σ M w) (hg : op.guard = none) (m x y : Operand) (ho : op.op = .entryStore 106 m x y) {born : Nat} (hm : a.eval m = .map (some b)) (hx : a.eval x = .int .i64 (born : Nat)) (hy : a.eval y = .int .i64 v) (hb : M b = some (mapRow es clock)) (hborn : ∃ x ∈ es, x.born = born)
    (hk : ∀ w', Has σ (M.upd b (mapRow (setB born v es) clock)) w' → K (a.put op.dst undef) w') : if Region.wanted op (yielded ops a.tmps) = true then Oper.wp Tryz.prog op a w K Q else E := by
  have hw : Region.wanted op (yielded ops a.tmps) = true := by simp [Region.wanted, hg]
  rw [if_pos hw]
  obtain ⟨w', hrun, h'⟩ := run_entryStore_spot h hb hborn v
  unfold Oper.wp
  simp [execOp, ho, hm, hx, hy, hrun, Result.andThen]
  exact hk w' h'
theorem step_lookup_spot (h : Has σ M w) (hg : op.guard = none) (m x : Operand) (ho : op.op = .lookup 106 m x false) (hm : a.eval m = .map (some b)) (hx : a.eval x = spotV l s) (hb : M b = some (mapRow es clock))
    (hk : K (a.put op.dst (.int .i64 (valE l s es))) w) : if Region.wanted op (yielded ops a.tmps) = true then Oper.wp Tryz.prog op a w K Q else E := by
  have hw : Region.wanted op (yielded ops a.tmps) = true := by simp [Region.wanted, hg]
  rw [if_pos hw]
  unfold Oper.wp
  simp [execOp, ho, hm, hx, run_lookup_spot h hb l s, Result.andThen]
  exact hk
end
end Go.Proofs.YtlpkimpdeeiaaaaGreat
