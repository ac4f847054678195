/- A map keyed by a number and a text (order.met): a key that isn't there is looked up, and laid. -/
import Derived.Test.YtjnhklhgcbknkaaGreatDoorMoI
namespace Go.Proofs.YtjnhklhgcbknkaaGreatDoor
open Go.RowKit Go.Instr
set_option linter.unusedVariables false
set_option linter.unusedSimpArgs false
set_option linter.unnecessarySimpa false
def metV (d : Int) (s : ByteArray) : Value := .agg #[.int .u64 d, .string s]
structure EntM where
  d : Int
  s : ByteArray
  v : Int
  born : Nat
def EntM.e (x : EntM) : MapEntry := { key := metV x.d x.s, val := .int .i64 x.v, born := x.born }
def mapRowM (es : List EntM) (clock : Nat) : Obj := .map (es.map EntM.e).toArray clock
def metKs : List Kd := [some (some .u64), some none]
theorem met_equal (d d' : Int) (s s' : ByteArray) (w : World) : (Op.equal 94 (metV d s) (metV d' s')).run Tryz.prog w = .ok (d == d' && s.toList == s'.toList) w := by
  have h := flatAt (P := Tryz.prog) (10000 - 10) 10 94 metKs w (metV d s) (metV d' s') (by kernel_rfl) (by kernel_rfl) (by kernel_rfl) (by kernel_rfl) ⟨rfl, trivial, trivial⟩ ⟨rfl, trivial, trivial⟩
  refine Eq.trans h ?_
  simp [metV, Value.cells, sames, same]
theorem met_asking (d : Int) (s : ByteArray) (w : World) : ∀ (es : List EntM) (i : Nat), (∀ x ∈ es, x.d ≠ d) → (findAsking 94 (metV d s) (es.map EntM.e) i).run Tryz.prog w = .ok none w
  | [], i, _ => rfl
  | x :: r, i, h => by
    have ih := met_asking d s w r (i + 1) fun y hy => h y (List.mem_cons_of_mem _ hy)
    simp only [List.map_cons, findAsking, Sem.run_bind]
    rw [show (EntM.e x).key = metV x.d x.s from rfl, met_equal]
    have hx : (d == x.d) = false := by simpa using fun e => h x (List.mem_cons_self ..) e.symm
    simp only [Result.andThen_ok, hx, Bool.false_and]
    simpa using ih
theorem met_find (d : Int) (s : ByteArray) (es : List EntM) (h : ∀ x ∈ es, x.d ≠ d) (w : World) : (findKey 94 (metV d s) (es.map EntM.e)).run Tryz.prog w = .ok none w := by
  unfold findKey
  simp only [Sem.run_bind, run_underlying Tryz.underlying94, Result.andThen_ok]
  cases es with
  | nil => rfl
  | cons x r => exact met_asking d s w (x :: r) 0 h
theorem met_check (b : Bool) (d : Int) (s : ByteArray) (w : World) : (checkKey b 10000 94 (metV d s)).run Tryz.prog w = .ok () w := by
  cases b <;> kernel_rfl
theorem met_zero : ∀ w, (zeroValue 3).run Tryz.prog w = .ok (.int .i64 0) w := fun w => by kernel_rfl
theorem run_lookup_met {σ w : World} {M : Mm} (h : Has σ M w) {b : Nat} {es : List EntM} {clock : Nat} (hb : M b = some (mapRowM es clock)) (d : Int) (s : ByteArray) (hd : ∀ x ∈ es, x.d ≠ d) : (Instr.lookup 47 (.map (some b)) (metV d s) false).run Tryz.prog w = .ok (.int .i64 0) w := by
  have hw := h.at_ b _ hb
  unfold Instr.lookup
  simp only [Sem.run_bind, run_underlying Tryz.underlying47, Result.andThen_ok, MapKept.run_getObj_map hw, Sem.run_pure, met_check, met_find d s es hd, met_zero]
  rfl
theorem run_update_met {σ w : World} {M : Mm} (h : Has σ M w) {b : Nat} {es : List EntM} {clock : Nat} (hb : M b = some (mapRowM es clock)) (d : Int) (s : ByteArray) (v : Int) (hd : ∀ x ∈ es, x.d ≠ d) : ∃ w', (Instr.mapUpdate 47 (.map (some b)) (metV d s) (.int .i64 v)).run Tryz.prog w = .ok () w' ∧ Has σ (M.upd b (mapRowM (es ++ [⟨d, s, v, clock⟩]) (clock + 1))) w' := by
  have hw := h.at_ b _ hb
  have hlt : b < w.heap.size := lt_of_block hw
  have fin : ∀ o : Obj, Has σ (M.upd b o) { w with heap := w.heap.setIfInBounds b o } := fun o => h.put ⟨rfl, rfl, rfl, by simp, fun k hk => by simp [Array.getElem?_setIfInBounds, Ne.symm hk]⟩ (by simp [hlt])
  unfold Instr.mapUpdate
  simp only [Sem.run_bind, run_underlying Tryz.underlying47, Result.andThen_ok, MapKept.run_getObj_map hw, met_check, met_find d s es hd]
  refine ⟨_, MapKept.run_setObj_map _ hw, ?_⟩
  have e : mapRowM (es ++ [⟨d, s, v, clock⟩]) (clock + 1) = .map ((es.map EntM.e).toArray.push { key := metV d s, val := .int .i64 v, born := clock }) (clock + 1) := by
    unfold mapRowM
    simp [EntM.e]
  rw [e]
  exact fin _
end Go.Proofs.YtjnhklhgcbknkaaGreatDoor
