/- TraceBetween returns true for any two lists of words and any changes, and leaves its arguments as they were; the package-level tables of the library start as the program's text lays them. No other condition. -/
import Derived.Test.YtenpijejdibjpaaDoorTraceLaw
import Derived.Test.YtenpijejdibjpaaDoorOpen
import Derived.Test.YtenpijejdibjpaaDoorCards
import Derived.Test.YtenpijejdibjpaaDoorTie
import Derived.Deep.DeepHandedRow
import Derived.Lib.LaidTab
namespace Go.Proofs.YtenpijejdibjpaaDoor
open Go.ChangeShapes Go.WideShapes Go.ChangeAt Go.RowKit
set_option linter.unusedVariables false
set_option linter.unusedSimpArgs false
set_option linter.unnecessarySimpa false

theorem traceBetween_walk (W : World) (a b l : Value) (n m k : Nat) (xs ys : List Int) (ls : List Chg) (hx : xs.length = n) (hy : ys.length = m) (hls : ls.length = k)
    (ha : Rd (World.mm W) 1 a n (u64s xs)) (hb : Rd (World.mm W) 1 b m (u64s ys)) (hl : Rd (World.mm W) 3 l k (ls.flatMap encC)) :
    Calls Tryd.prog 4 #[a, b, l] W fun r w' => r = .returned (.bool true) ∧ Below W.heap.size W w' := by
  have h := Has.new W
  by_cases hbig : 300 < n ∨ 300 < m ∨ 300 < k
  · exact (traceBetween_big h a b l n m k ha hb hl hbig).mono fun r w' ⟨hr, hw⟩ => ⟨hr, hw.toBelow fun _ _ h => h⟩
  · exact (traceBetween_small h a b l n m k xs ys ls hx hy hls ha hb hl (by omega) (by omega) (by omega)).mono fun r w' ⟨hr, hw⟩ => ⟨hr, hw.toBelow fun _ _ h => h⟩

/-- The cells that a table's datum reads as. -/
def litCells {H : Type} : DataW H → Array Value
  | .agg ds => (ds.map fun d => match d with | .lit (.int k n) => Value.int k n | _ => undef).toArray
  | _ => #[]
/-- A world for the witness: the tables hold what the program's text lays. -/
noncomputable def laidWorld (os : Os) : World :=
  let w := World.holding Tryd.prog os ⟨#[], #[], []⟩
  let put (g : Nat) (d : DataW Unit) (w : World) : World := { w with heap := w.heap.modify g fun
    | .cells _ t frozen => .cells (litCells d) t frozen
    | o => o }
  put 0 Rows.laid_internal_strconv_uint64pow10 (put 1 Rows.laid_math_bits_deBruijn32tab (put 2 Rows.laid_math_bits_deBruijn64tab w))
theorem laid_met (os : Os) : laidMet Tryd.prog Rows.traceBetweenRow.laid ((laidWorld os).forCall (fun _ _ => 0) ⟨#[], #[.slice none 0 0, .slice none 0 0, .slice none 0 0], []⟩).memory :=
  laidMet_of_run' 8 (by kernel_rfl) (by kernel_rfl)
theorem reads (os : Os) {H : Type} (enc : TypeId × Value → H) : ∃ places, DataW.whole enc Tryd.prog ((laidWorld os).forCall (fun _ _ => 0) ⟨#[], #[.slice none 0 0, .slice none 0 0, .slice none 0 0], []⟩).memory Tryd.f4.params.toList Rows.traceBetweenSpec.vars false #[Value.slice none 0 0, Value.slice none 0 0, Value.slice none 0 0].toList 8 = some ([.nil, .nil, .nil], [], places) :=
  ⟨[], by kernel_rfl⟩
theorem cells_one {P : Program} {w : World} {r : Reach} {b : Nat} {t e : TypeId} {v : Value} (hu : P.underlying t = some (.slice e)) (hv : Value.okWide P w r b t v) : v.cells = #[v] := by
  simp only [Value.okWide, hu] at hv
  unfold Cell.okWide at hv
  rw [hu] at hv
  cases v <;> first | rfl | (simp [Cell.ok, hu] at hv)

set_option maxRecDepth 100000 in
theorem traceBetween_lifted (os : Os) (started : os.Started) (H : Type) (enc : TypeId × Value → H) (F : Stop.Interp) :
    ReturnsInHanded {} Tryd.checked os 4 .any ((OpenSpec.ofChange Rows.traceBetweenSpec).preRow enc Tryd.prog Tryd.f4 Rows.traceBetweenRow.domain false Rows.traceBetweenRow.laid) (((OpenSpec.ofChange Rows.traceBetweenSpec).at F).post enc Tryd.prog Tryd.f4 false true false false) := by
  obtain ⟨places, hx⟩ := reads os enc
  refine returnsInHanded_of_row (C := Tryd.checked) (s := OpenSpec.ofChange Rows.traceBetweenSpec) own started (by kernel_rfl) Tryd.func4
    (witness_row_at (enc := enc) (C := Tryd.checked) false (laidWorld os) #[.slice none 0 0, .slice none 0 0, .slice none 0 0] rfl (by kernel_rfl) (by kernel_rfl) (by kernel_rfl)
      (OpenSpec.preRow_of_cond 8 hx (by kernel_rfl) (fun k hk => by cases hk) (by kernel_rfl) (laid_met os))) ?_
  intro W base args ds gs before hval0 hW _ _ _ hL _ _
  have hval : ∀ (j : Nat) t v, Tryd.f4.params[j]? = some t → args[j]? = some v → Value.okWide Tryd.prog W .any base t v := hval0
  have hW' := hW
  obtain ⟨p, q, hA0, hV, rfl, hfz, hnd⟩ := hW
  have hA : DataW.TrodAll enc Tryd.prog W 0 (fun _ => true) true Tryd.f4.params.toList args.toList ds p := hA0
  rw [Tryd.params4] at hA hval
  obtain ⟨v0, vs0, d0, ds0, p0, q0, hargs, rfl, rfl, h0, r0⟩ := trodAll_cons hA
  obtain ⟨v1, vs1, d1, ds1, p1, q1, rfl, rfl, rfl, h1, r1⟩ := trodAll_cons r0
  obtain ⟨v2, vs2, d2, ds2, p2, q2, rfl, rfl, rfl, h2, r2⟩ := trodAll_cons r1
  obtain ⟨rfl, rfl, rfl⟩ := trodAll_nil r2
  obtain rfl : args = #[v0, v1, v2] := by cases args; simp_all
  obtain ⟨rfl, rfl⟩ := trodVars_none hV
  obtain ⟨xs, n, hxl, _, ha⟩ := open_rd_ints Tryd.underlying32 Tryd.underlying64 (by kernel_rfl) (cells_one Tryd.underlying32 (hval 0 _ v0 rfl rfl)) h0
  obtain ⟨ys, m, hyl, _, hb⟩ := open_rd_ints Tryd.underlying32 Tryd.underlying64 (by kernel_rfl) (cells_one Tryd.underlying32 (hval 1 _ v1 rfl rfl)) h1
  obtain ⟨c, k, _, hl⟩ := open_rd_structs (ks := [.i64, .u64, .u64]) Tryd.underlying33 Tryd.underlying66 (by kernel_rfl) rfl (by decide) (by
    intro j f k hf hk
    rcases j with _ | _ | _ | j
    · cases hf; cases hk; exact ⟨rfl, by kernel_rfl, by kernel_rfl⟩
    · cases hf; cases hk; exact ⟨rfl, by kernel_rfl, by kernel_rfl⟩
    · cases hf; cases hk; exact ⟨rfl, by kernel_rfl, by kernel_rfl⟩
    · simp at hk) (cells_one Tryd.underlying33 (hval 2 _ v2 rfl rfl)) h2
  have e : ((List.range k).flatMap fun i => (List.range 3).map fun j => Value.int (([.i64, .u64, .u64] : List IntKind).getD j .i64) (c i j)) = ((List.range k).map fun i => ((c i 0, c i 1, c i 2) : Chg)).flatMap encC := by
    rw [List.flatMap_map]
    rfl
  refine (traceBetween_walk W v0 v1 v2 n m k xs ys ((List.range k).map fun i => (c i 0, c i 1, c i 2)) hxl hyl (by simp) ha hb (e ▸ hl)).mono fun r W' ⟨hr, hb⟩ => ⟨_, hr, ?_⟩
  exact law_post laidOut (by rw [Tryd.params4]; decide +kernel) rfl Tryd.underlying4 rfl rfl hW' hb

theorem traceBetween_said : Rows.TraceBetweenSaid :=
  OpenClaim.holds_of_cond 4 Tryd.f4 rfl rfl rfl rfl rfl rfl rfl ⟨rfl, rfl, rfl, rfl, rfl⟩ rfl rfl rfl rfl rfl (by kernel_rfl) Tryd.func4 (by kernel_rfl)
    (of_decide_eq_true (by kernel_rfl)) (by unfold Func.isWrapper; first | (rw [if_pos (by decide +kernel)]; kernel_rfl) | (rw [if_neg (by decide +kernel)]; exact ⟨rfl, rfl⟩))
    (fun os started H enc _ F => by rw [OpenClaim.pre_eq_preRow]; exact traceBetween_lifted os started H enc F)

theorem traceBetween_plain (f : FuncId) (fn : Func) (hf : Tryd.pinned.checked.prog.funcNamed "burnbag/burnbaglaw43.TraceBetween" = some f) (hfn : Tryd.pinned.checked.prog.funcs[f]? = some fn) :
    false = Tryd.pinned.checked.prog.looks [] ∧ ∀ (j : Nat) t, fn.params[j]? = some t → Tryd.pinned.checked.prog.wantsStandIn t = false := by
  obtain rfl : f = 4 := Option.some.inj ((show Tryd.prog.funcNamed "burnbag/burnbaglaw43.TraceBetween" = some 4 by kernel_rfl).symm.trans hf) |>.symm
  obtain rfl : fn = Tryd.f4 := (Option.some.inj (Tryd.func4.symm.trans hfn)).symm
  refine ⟨by kernel_rfl, fun j t ht => ?_⟩
  rw [Tryd.params4] at ht
  rcases j with _ | _ | _ | j
  · cases ht; exact (show Tryd.prog.wantsStandIn 32 = false by kernel_rfl)
  · cases ht; exact (show Tryd.prog.wantsStandIn 32 = false by kernel_rfl)
  · cases ht; exact (show Tryd.prog.wantsStandIn 33 = false by kernel_rfl)
  · simp at ht

theorem traceBetween_holds : Rows.TraceBetweenCardSaid :=
  Claim7.holds_tied_plain_at .later [] _ _ _ _ traceBetween_said (fun _ h => by cases h) (by kernel_rfl) (fun _ h => by cases h) traceBetween_row_tie rfl ⟨rfl, rfl⟩ (by kernel_rfl) rfl traceBetween_plain (by kernel_rfl)
#print axioms traceBetween_holds
end Go.Proofs.YtenpijejdibjpaaDoor
