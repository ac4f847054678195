/- Maps from numbers to numbers: what is looked up and stored, and a range over one. -/
import Derived.Test.YtjnhklhgcbknkaaGreatDoorRegion
import Derived.MapKept
import Derived.RowKitTokens
import Derived.Laws.IdiomRangeMap
namespace Go.Proofs.YtjnhklhgcbknkaaGreatDoor
open Go.RowKit Go.Instr
set_option linter.unusedVariables false
set_option linter.unusedSimpArgs false
set_option linter.unnecessarySimpa false
/-- An entry: its key, its number, since when. -/
structure EntI where
  k : Int
  v : Int
  born : Nat
def EntI.e (x : EntI) : MapEntry := { key := .int .i64 x.k, val := .int .i64 x.v, born := x.born }
def mapRowI (es : List EntI) (clock : Nat) : Obj := .map (es.map EntI.e).toArray clock
/-- Where a key's entry is. -/
def findI (k : Int) : List EntI → Nat → Option (Nat × Value)
  | [], _ => none
  | x :: r, i => if k == x.k then some (i, .int .i64 x.v) else findI k r (i + 1)
theorem find_nowI (q : IntKind) (k : Int) : ∀ (es : List EntI) (i : Nat), findNow (.int q) (.int .i64 k) (es.map EntI.e) i = some (findI k es i)
  | [], i => rfl
  | x :: r, i => by
    have ih := find_nowI q k r (i + 1)
    simp only [List.map_cons, findNow, findI]
    rw [show sameNow (.int q) (.int .i64 k) (EntI.e x).key = some (k == x.k) from rfl]
    cases (k == x.k)
    · exact ih
    · rfl
theorem find_keyI (k : Int) (es : List EntI) (w : World) : (findKey 3 (.int .i64 k) (es.map EntI.e)).run Tryz.prog w = .ok (findI k es 0) w := by
  unfold findKey
  simp only [Sem.run_bind, run_underlying Tryz.underlying3, Result.andThen_ok, find_nowI]
  rfl
theorem check_keyI (b : Bool) (k : Int) (w : World) : (checkKey b 10000 3 (.int .i64 k)).run Tryz.prog w = .ok () w := by
  cases b <;> kernel_rfl
/-- What a key's number is. -/
def valI (k : Int) : List EntI → Int
  | [] => 0
  | x :: r => if k == x.k then x.v else valI k r
def hasI (k : Int) : List EntI → Bool
  | [] => false
  | x :: r => k == x.k || hasI k r
/-- A key's number is set. -/
def putI (k v : Int) (clock : Nat) : List EntI → List EntI
  | [] => [⟨k, v, clock⟩]
  | x :: r => if k == x.k then { x with v := v } :: r else x :: putI k v clock r
theorem findI_val (k : Int) : ∀ (es : List EntI) (i : Nat), (findI k es i = none ∧ hasI k es = false ∧ valI k es = 0) ∨ (∃ j, findI k es i = some (j, .int .i64 (valI k es)) ∧ hasI k es = true)
  | [], i => .inl ⟨rfl, rfl, rfl⟩
  | x :: r, i => by
    unfold findI hasI valI
    cases h : (k == x.k)
    · simpa using findI_val k r (i + 1)
    · exact .inr ⟨i, by simp⟩
theorem zero_intI : ∀ w, (zeroValue 3).run Tryz.prog w = .ok (.int .i64 0) w := fun w => by kernel_rfl
theorem run_lookup_int {σ w : World} {M : Mm} (h : Has σ M w) {b : Nat} {es : List EntI} {clock : Nat} (hb : M b = some (mapRowI es clock)) (k : Int) : (Instr.lookup 118 (.map (some b)) (.int .i64 k) false).run Tryz.prog w = .ok (.int .i64 (valI k es)) w := by
  have hw := h.at_ b _ hb
  unfold Instr.lookup
  simp only [Sem.run_bind, run_underlying Tryz.underlying118, Result.andThen_ok, MapKept.run_getObj_map hw, Sem.run_pure, check_keyI, find_keyI]
  rcases findI_val k es 0 with ⟨h1, _, h3⟩ | ⟨j, h1, _⟩
  · rw [h1, h3]
    simp only [Sem.run_bind, zero_intI, Result.andThen_ok, Sem.run_pure]
    rfl
  · rw [h1]
    rfl
theorem putI_none (k v : Int) (clock : Nat) : ∀ es : List EntI, hasI k es = false → putI k v clock es = es ++ [⟨k, v, clock⟩]
  | [], _ => rfl
  | x :: r, h => by
    unfold hasI at h
    simp only [Bool.or_eq_false_iff] at h
    unfold putI
    rw [if_neg (by rw [h.1]; exact Bool.false_ne_true), putI_none k v clock r h.2]
    rfl
theorem findI_at (k v : Int) (clock : Nat) : ∀ (es : List EntI) (i : Nat), hasI k es = true → ∃ j, findI k es i = some (i + j, .int .i64 (valI k es)) ∧ ((es.map EntI.e)[j]?).map (·.key) = some (.int .i64 k) ∧
    (es.map EntI.e).modify j (fun e => { e with key := .int .i64 k, val := .int .i64 v }) = (putI k v clock es).map EntI.e
  | [], i, h => by cases h
  | x :: r, i, h => by
    unfold hasI at h
    unfold findI valI putI
    cases hx : (k == x.k)
    · rw [hx, Bool.false_or] at h
      obtain ⟨j, h1, h2, h3⟩ := findI_at k v clock r (i + 1) h
      refine ⟨j + 1, ?_, by simpa using h2, ?_⟩
      · simp only [Bool.false_eq_true, if_false]
        rw [h1]
        congr 2
        omega
      · simp only [Bool.false_eq_true, if_false, List.map_cons, List.modify_succ_cons, h3]
    · have hx' := beq_iff_eq.1 hx
      subst hx'
      exact ⟨0, by simp, by simp [EntI.e], by simp [EntI.e]⟩
theorem run_update_int {σ w : World} {M : Mm} (h : Has σ M w) {b : Nat} {es : List EntI} {clock : Nat} (hb : M b = some (mapRowI es clock)) (k v : Int) : ∃ w', (Instr.mapUpdate 118 (.map (some b)) (.int .i64 k) (.int .i64 v)).run Tryz.prog w = .ok () w' ∧ Has σ (M.upd b (mapRowI (putI k v clock es) (if hasI k es then clock else clock + 1))) w' := by
  have hw := h.at_ b _ hb
  have hlt : b < w.heap.size := lt_of_block hw
  have fin : ∀ o : Obj, Has σ (M.upd b o) { w with heap := w.heap.setIfInBounds b o } := fun o => h.put ⟨rfl, rfl, rfl, by simp, fun k hk => by simp [Array.getElem?_setIfInBounds, Ne.symm hk]⟩ (by simp [hlt])
  unfold Instr.mapUpdate
  simp only [Sem.run_bind, run_underlying Tryz.underlying118, Result.andThen_ok, MapKept.run_getObj_map hw, check_keyI, find_keyI]
  cases hh : hasI k es
  · rcases findI_val k es 0 with ⟨h1, _, _⟩ | ⟨j, _, h2⟩
    · rw [h1]
      refine ⟨_, MapKept.run_setObj_map _ hw, ?_⟩
      rw [putI_none k v clock es hh]
      have e : mapRowI (es ++ [⟨k, v, clock⟩]) (clock + 1) = .map ((es.map EntI.e).toArray.push { key := .int .i64 k, val := .int .i64 v, born := clock }) (clock + 1) := by
        unfold mapRowI
        simp [EntI.e]
      simp only [Bool.false_eq_true, if_false]
      rw [e]
      exact fin _
    · rw [hh] at h2; cases h2
  · obtain ⟨j, h1, h2, h3⟩ := findI_at k v clock es 0 hh
    rw [h1]
    have hkey : (((es.map EntI.e).toArray[0 + j]?).map (·.key)).getD (.int .i64 k) = .int .i64 k := by
      rw [Nat.zero_add]
      simp only [List.getElem?_toArray]
      rw [h2]
      rfl
    have sb : sameBits 10000 (.int .i64 k) (.int .i64 k) = true := by simp [sameBits]
    simp only [hkey, keyThatStays, sb, if_true, Sem.run_bind, Sem.run_pure, Result.andThen_ok]
    refine ⟨_, MapKept.run_setObj_map _ hw, ?_⟩
    have e : mapRowI (putI k v clock es) clock = .map ((es.map EntI.e).toArray.modify (0 + j) fun e => { e with key := .int .i64 k, val := .int .i64 v }) clock := by
      unfold mapRowI
      rw [← h3, Nat.zero_add]
      simp
    rw [e]
    exact fin _
end Go.Proofs.YtjnhklhgcbknkaaGreatDoor
