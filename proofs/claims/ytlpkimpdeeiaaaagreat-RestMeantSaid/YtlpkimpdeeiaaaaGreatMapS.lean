/- Maps keyed by a spot (a level and a slot), with numbers: what is looked up and stored. -/
import Derived.Test.YtlpkimpdeeiaaaaGreatCellsB
namespace Go.Proofs.YtlpkimpdeeiaaaaGreat
open Go.RowKit Go.Instr
set_option linter.unusedVariables false
set_option linter.unusedSimpArgs false
set_option linter.unnecessarySimpa false
/-- An entry: level, slot, number, since when. -/
structure Ent where
  l : Int
  s : Int
  v : Int
  born : Nat
def spotV (l s : Int) : Value := .agg #[.int .i64 l, .int .i64 s]
def Ent.e (x : Ent) : MapEntry := { key := spotV x.l x.s, val := .int .i64 x.v, born := x.born }
def mapRow (es : List Ent) (clock : Nat) : Obj := .map (es.map Ent.e).toArray clock
def spotKs : List Kd := [some (some .i64), some (some .i64)]
theorem spot_equal (l s l' s' : Int) (w : World) : (Op.equal 114 (spotV l s) (spotV l' s')).run Tryz.prog w = .ok (l == l' && s == s') w := by
  have h := flatAt (P := Tryz.prog) (10000 - 10) 10 114 spotKs w (spotV l s) (spotV l' s') (by kernel_rfl) (by kernel_rfl) (by kernel_rfl) (by kernel_rfl) ⟨rfl, rfl, trivial⟩ ⟨rfl, rfl, trivial⟩
  refine Eq.trans h ?_
  simp [spotV, Value.cells, sames, same]
/-- Where a spot's entry is. -/
def findE (l s : Int) : List Ent → Nat → Option (Nat × Value)
  | [], _ => none
  | x :: r, i => if l == x.l && s == x.s then some (i, .int .i64 x.v) else findE l s r (i + 1)
theorem find_asking (l s : Int) (w : World) : ∀ (es : List Ent) (i : Nat), (findAsking 114 (spotV l s) (es.map Ent.e) i).run Tryz.prog w = .ok (findE l s es i) w
  | [], i => rfl
  | x :: r, i => by
    have ih := find_asking l s w r (i + 1)
    simp only [List.map_cons, findAsking, Sem.run_bind]
    rw [show (Ent.e x).key = spotV x.l x.s from rfl, spot_equal]
    simp only [Result.andThen_ok, findE]
    cases (l == x.l && s == x.s)
    · simpa using ih
    · rfl
theorem find_key (l s : Int) (es : List Ent) (w : World) : (findKey 114 (spotV l s) (es.map Ent.e)).run Tryz.prog w = .ok (findE l s es 0) w := by
  unfold findKey
  simp only [Sem.run_bind, run_underlying Tryz.underlying114, Result.andThen_ok]
  cases es with
  | nil => rfl
  | cons x r => exact find_asking l s w (x :: r) 0
theorem check_key (b : Bool) (l s : Int) (w : World) : (checkKey b 10000 114 (spotV l s)).run Tryz.prog w = .ok () w := by
  cases b <;> kernel_rfl

/-- What a spot's number is. -/
def valE (l s : Int) : List Ent → Int
  | [] => 0
  | x :: r => if l == x.l && s == x.s then x.v else valE l s r
def hasE (l s : Int) : List Ent → Bool
  | [] => false
  | x :: r => (l == x.l && s == x.s) || hasE l s r
/-- A spot's number is set. -/
def putE (l s v : Int) (clock : Nat) : List Ent → List Ent
  | [] => [⟨l, s, v, clock⟩]
  | x :: r => if l == x.l && s == x.s then { x with v := v } :: r else x :: putE l s v clock r
theorem findE_val (l s : Int) : ∀ (es : List Ent) (i : Nat), (findE l s es i = none ∧ hasE l s es = false ∧ valE l s es = 0) ∨ (∃ j, findE l s es i = some (j, .int .i64 (valE l s es)) ∧ hasE l s es = true)
  | [], i => .inl ⟨rfl, rfl, rfl⟩
  | x :: r, i => by
    unfold findE hasE valE
    cases h : (l == x.l && s == x.s)
    · simpa using findE_val l s r (i + 1)
    · exact .inr ⟨i, by simp⟩
theorem zero_int : ∀ w, (zeroValue 3).run Tryz.prog w = .ok (.int .i64 0) w := fun w => by kernel_rfl
theorem run_lookup_spot {σ w : World} {M : Mm} (h : Has σ M w) {b : Nat} {es : List Ent} {clock : Nat} (hb : M b = some (mapRow es clock)) (l s : Int) : (Instr.lookup 106 (.map (some b)) (spotV l s) false).run Tryz.prog w = .ok (.int .i64 (valE l s es)) w := by
  have hw := h.at_ b _ hb
  unfold Instr.lookup
  simp only [Sem.run_bind, run_underlying Tryz.underlying106, Result.andThen_ok, MapKept.run_getObj_map hw, Sem.run_pure, check_key, find_key]
  rcases findE_val l s es 0 with ⟨h1, _, h3⟩ | ⟨j, h1, _⟩
  · rw [h1, h3]
    simp only [Sem.run_bind, zero_int, Result.andThen_ok, Sem.run_pure]
    rfl
  · rw [h1]
    rfl

theorem putE_none (l s v : Int) (clock : Nat) : ∀ es : List Ent, hasE l s es = false → putE l s v clock es = es ++ [⟨l, s, v, clock⟩]
  | [], _ => rfl
  | x :: r, h => by
    unfold hasE at h
    simp only [Bool.or_eq_false_iff] at h
    unfold putE
    rw [if_neg (by rw [h.1]; exact Bool.false_ne_true), putE_none l s v clock r h.2]
    rfl
theorem findE_at (l s v : Int) (clock : Nat) : ∀ (es : List Ent) (i : Nat), hasE l s es = true → ∃ j, findE l s es i = some (i + j, .int .i64 (valE l s es)) ∧ ((es.map Ent.e)[j]?).map (·.key) = some (spotV l s) ∧
    (es.map Ent.e).modify j (fun e => { e with key := spotV l s, val := .int .i64 v }) = (putE l s v clock es).map Ent.e
  | [], i, h => by cases h
  | x :: r, i, h => by
    unfold hasE at h
    unfold findE valE putE
    cases hx : (l == x.l && s == x.s)
    · rw [hx, Bool.false_or] at h
      obtain ⟨j, h1, h2, h3⟩ := findE_at l s v clock r (i + 1) h
      refine ⟨j + 1, ?_, by simpa using h2, ?_⟩
      · simp only [Bool.false_eq_true, if_false]
        rw [h1]
        congr 2
        omega
      · simp only [Bool.false_eq_true, if_false, List.map_cons, List.modify_succ_cons, h3]
    · simp only [Bool.and_eq_true, beq_iff_eq] at hx
      obtain ⟨rfl, rfl⟩ := hx
      exact ⟨0, by simp, by simp [Ent.e], by simp [Ent.e]⟩
theorem same_bits (l s : Int) : sameBits 10000 (spotV l s) (spotV l s) = true := by simp [spotV, sameBits]
theorem run_update_spot {σ w : World} {M : Mm} (h : Has σ M w) {b : Nat} {es : List Ent} {clock : Nat} (hb : M b = some (mapRow es clock)) (l s v : Int) : ∃ w', (Instr.mapUpdate 106 (.map (some b)) (spotV l s) (.int .i64 v)).run Tryz.prog w = .ok () w' ∧ Has σ (M.upd b (mapRow (putE l s v clock es) (if hasE l s es then clock else clock + 1))) w' := by
  have hw := h.at_ b _ hb
  have hlt : b < w.heap.size := lt_of_block hw
  have fin : ∀ o : Obj, Has σ (M.upd b o) { w with heap := w.heap.setIfInBounds b o } := fun o => h.put ⟨rfl, rfl, rfl, by simp, fun k hk => by simp [Array.getElem?_setIfInBounds, Ne.symm hk]⟩ (by simp [hlt])
  unfold Instr.mapUpdate
  simp only [Sem.run_bind, run_underlying Tryz.underlying106, Result.andThen_ok, MapKept.run_getObj_map hw, check_key, find_key]
  cases hh : hasE l s es
  · rcases findE_val l s es 0 with ⟨h1, _, _⟩ | ⟨j, _, h2⟩
    · rw [h1]
      refine ⟨_, MapKept.run_setObj_map _ hw, ?_⟩
      rw [putE_none l s v clock es hh]
      have e : mapRow (es ++ [⟨l, s, v, clock⟩]) (clock + 1) = .map ((es.map Ent.e).toArray.push { key := spotV l s, val := .int .i64 v, born := clock }) (clock + 1) := by
        unfold mapRow
        simp [Ent.e]
      simp only [Bool.false_eq_true, if_false]
      rw [e]
      exact fin _
    · rw [hh] at h2; cases h2
  · obtain ⟨j, h1, h2, h3⟩ := findE_at l s v clock es 0 hh
    rw [h1]
    have hkey : (((es.map Ent.e).toArray[0 + j]?).map (·.key)).getD (spotV l s) = spotV l s := by
      rw [Nat.zero_add]
      simp only [List.getElem?_toArray]
      rw [h2]
      rfl
    simp only [hkey, keyThatStays, same_bits, if_true, Sem.run_bind, Sem.run_pure, Result.andThen_ok]
    refine ⟨_, MapKept.run_setObj_map _ hw, ?_⟩
    have e : mapRow (putE l s v clock es) clock = .map ((es.map Ent.e).toArray.modify (0 + j) fun e => { e with key := spotV l s, val := .int .i64 v }) clock := by
      unfold mapRow
      rw [← h3, Nat.zero_add]
      simp
    rw [e]
    exact fin _
end Go.Proofs.YtlpkimpdeeiaaaaGreat
