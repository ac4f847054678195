/- FailKeeps returns true for any error that is made and noted, any text and any place, and leaves its arguments as they were; the package-level variable errors.errorType starts as the program's text lays it. No other condition. -/
import Derived.Test.YtillefeoponkjaaDoorAsJ
import Derived.Test.YtillefeoponkjaaDoorOpenR
import Derived.Test.YtillefeoponkjaaDoorCards
import Derived.Test.YtillefeoponkjaaDoorTie
import Derived.Deep.DeepHandedRow
import Derived.Lib.LaidTab
import Derived.LaidHandle
import Derived.ChangeMaps5
namespace Go.Proofs.YtillefeoponkjaaDoor
open Go.ChangeShapes Go.WideShapes Go.ChangeAt Go.RowKit
set_option linter.unusedVariables false
set_option linter.unusedSimpArgs false
set_option linter.unnecessarySimpa false
theorem cellsS : Tryd.prog.cellsOf 25 = 5 := by kernel_rfl
theorem typesS : Tryd.prog.cellTypes Tryd.prog.depth 25 = some [3, 3, 9, 22, 23] := by kernel_rfl
theorem cells2 : Tryd.prog.cellsOf 47 = 2 := by kernel_rfl
theorem types2 : Tryd.prog.cellTypes Tryd.prog.depth 47 = some [3, 3] := by kernel_rfl
theorem flat_strs (L : List ByteArray) : (L.flatMap fun y => [Value.string y]) = strs L := by
  induction L with
  | nil => rfl
  | cons a L ih =>
    show Value.string a :: (L.flatMap _) = _
    rw [ih]
    rfl
section
variable {H : Type} {enc : TypeId × Value → H} {w : World} {base : Nat} {held : Bool}
theorem string_cells {spare : Nat → Bool} (n : Nat) (cs : List Value) (x : DataW H × List MemPlace) (h : DataW.trod enc Tryd.prog w base spare held n 9 cs = some x) : ∃ y : ByteArray, cs = [Value.string y] := by
  obtain ⟨z, hz, _⟩ := DataW.trod_string Tryd.underlying9 h
  exact ⟨z, hz⟩
set_option maxRecDepth 100000 in
theorem open_S {r : Reach} {b : Nat} {v : Value} {d : DataW H} {ps : List MemPlace} (hv : Value.okWide Tryd.prog w r b 25 v) (h : DataW.Trod enc Tryd.prog w base (fun _ => true) held 25 v d ps) :
    ∃ t l wh c p ns, v = .agg (sCells t l wh c p) ∧ Rd (World.mm w) 1 p (List.length ns) (strs ns) := by
  have hu := Tryd.underlying25
  simp only [Value.okWide, hu] at hv
  obtain ⟨cs, rfl, hsz, ts', hts, _, hall⟩ := hv
  rw [typesS] at hts
  cases hts
  rw [cellsS] at hsz
  obtain ⟨c0, c1, c2, c3, c4, rfl⟩ : ∃ c0 c1 c2 c3 c4, cs = #[c0, c1, c2, c3, c4] := by
    obtain ⟨l⟩ := cs
    match l, hsz with
    | [c0, c1, c2, c3, c4], _ => exact ⟨_, _, _, _, _, rfl⟩
  have h0 : Cell.okWide Tryd.prog w r b 3 c0 := pick_u (Q := fun u => Cell.okWide Tryd.prog w r b u c0) (hall 0 c0 rfl) rfl
  have h1 : Cell.okWide Tryd.prog w r b 3 c1 := pick_u (Q := fun u => Cell.okWide Tryd.prog w r b u c1) (hall 1 c1 rfl) rfl
  have h2 : Cell.okWide Tryd.prog w r b 9 c2 := pick_u (Q := fun u => Cell.okWide Tryd.prog w r b u c2) (hall 2 c2 rfl) rfl
  have h3 : Cell.okWide Tryd.prog w r b 22 c3 := pick_u (Q := fun u => Cell.okWide Tryd.prog w r b u c3) (hall 3 c3 rfl) rfl
  have h4 : Cell.okWide Tryd.prog w r b 23 c4 := pick_u (Q := fun u => Cell.okWide Tryd.prog w r b u c4) (hall 4 c4 rfl) rfl
  obtain ⟨t, rfl⟩ := int_cell Tryd.underlying3 h0
  obtain ⟨l, rfl⟩ := int_cell Tryd.underlying3 h1
  obtain ⟨wh, rfl⟩ := str_cell Tryd.underlying9 h2
  obtain ⟨c, rfl⟩ := int_cell Tryd.underlying22 h3
  have hc4 := slice_cell Tryd.underlying23 h4
  obtain ⟨fuel, hf⟩ := h
  obtain ⟨xs, n, rfl, _, _, hxl, hfl⟩ := DataW.trod_struct hu hf
  have hq := hfl 4 _ rfl
  rw [List.getElem?_eq_getElem (by rw [hxl]; decide)] at hq
  obtain ⟨L, hL⟩ := open_rows (en := fun y : ByteArray => [Value.string y]) (sz := 1) (d := (xs[4]'(by rw [hxl]; decide)).1) (ps := (xs[4]'(by rw [hxl]; decide)).2) (fun _ => rfl) (by omega) Tryd.underlying23 (by kernel_rfl) string_cells hc4 ⟨n, by
    rw [hc4]
    refine Eq.trans ?_ hq
    congr 1⟩
  rw [flat_strs] at hL
  exact ⟨t, l, wh, c, c4, L, rfl, hL⟩
set_option maxRecDepth 100000 in
theorem open_2 {r : Reach} {b : Nat} {v : Value} (hv : Value.okWide Tryd.prog w r b 47 v) : ∃ x y, v = .agg #[.int .i64 x, .int .i64 y] := by
  have hu := Tryd.underlying47
  simp only [Value.okWide, hu] at hv
  obtain ⟨cs, rfl, hsz, ts', hts, _, hall⟩ := hv
  rw [types2] at hts
  cases hts
  rw [cells2] at hsz
  obtain ⟨c0, c1, rfl⟩ : ∃ c0 c1, cs = #[c0, c1] := by
    obtain ⟨l⟩ := cs
    match l, hsz with
    | [c0, c1], _ => exact ⟨_, _, rfl⟩
  have h0 : Cell.okWide Tryd.prog w r b 3 c0 := pick_u (Q := fun u => Cell.okWide Tryd.prog w r b u c0) (hall 0 c0 rfl) rfl
  have h1 : Cell.okWide Tryd.prog w r b 3 c1 := pick_u (Q := fun u => Cell.okWide Tryd.prog w r b u c1) (hall 1 c1 rfl) rfl
  obtain ⟨x, rfl⟩ := int_cell Tryd.underlying3 h0
  obtain ⟨y, rfl⟩ := int_cell Tryd.underlying3 h1
  exact ⟨x, y, rfl⟩
end
theorem et0 : Tryd.prog.globalNamed "errors.errorType" = some 0 := by kernel_rfl
theorem rt0 : (Tryd.prog.cutTypes.find? (·.1 == "internal/reflectlite.rtype")).map (·.2) = some 77 := by kernel_rfl
theorem oneRow : ((List.range Tryd.prog.types.size).filter fun t => Tryd.prog.rowNamed t [101, 114, 114, 111, 114]) = [29] := by kernel_rfl
theorem eTy_of_laid {W : World} {l : List (String × DataW Unit)} (hm : ("errors.errorType", Rows.laid_errors_errorType) ∈ l.filter fun x => x.2.handleName?.isSome) (h : handlesMet Tryd.prog (l.filter fun x => x.2.handleName?.isSome) W) (hsh : W.ShapedOpen Tryd.prog) : ETy (World.mm W) := by
  obtain ⟨name, u, ty, e1, e2, e3, e4, e5⟩ := h _ hm
  have en : name = [101, 114, 114, 111, 114] := (Option.some.inj e1).symm
  subst en
  obtain rfl := Option.some.inj (rt0.symm.trans e2)
  have hm : ty ∈ (List.range Tryd.prog.types.size).filter fun t => Tryd.prog.rowNamed t [101, 114, 114, 111, 114] := List.mem_filter.2 ⟨List.mem_range.2 e3, e4⟩
  rw [oneRow] at hm
  obtain rfl := List.mem_singleton.1 hm
  have hh : typeHandle Tryd.prog 29 = hnd 29 := by kernel_rfl
  rw [hh] at e5
  have hs : (((begin Tryd.prog (fun _ _ => 0) default).world.heap[0]?).bind Obj.row?).isSome = true := by kernel_rfl
  obtain ⟨⟨zero, t⟩, hx⟩ := Option.isSome_iff_exists.1 hs
  obtain ⟨cs, hb, _, _⟩ := hsh.1 0 zero t (of_decide_eq_true (by kernel_rfl)) hx
  unfold World.var? at e5
  rw [show Tryd.prog.globalNamed ("errors.errorType", Rows.laid_errors_errorType).1 = some 0 from et0] at e5
  simp only [Option.bind_some, hb, Option.some.injEq] at e5
  subst e5
  exact ⟨t, hb⟩
/-- A world for the witness: the variable holds the type's handle. -/
noncomputable def laidWorld (os : Os) : World :=
  let w0 := World.holding Tryd.prog os ⟨#[], #[], []⟩
  { w0 with heap := w0.heap.modify 0 fun
      | .cells _ t frozen => .cells #[rty 29] t frozen
      | o => o }
theorem laid_met (os : Os) (args : Array Value) : laidMetH Tryd.prog Rows.failKeepsRow.laid ((laidWorld os).forCall (fun _ _ => 0) ⟨#[], args, []⟩).memory :=
  laidMetH_of_parts (laidMet_nil _ _) (by kernel_rfl)
theorem reads (os : Os) {H : Type} (enc : TypeId × Value → H) : ∃ places, DataW.whole enc Tryd.prog ((laidWorld os).forCall (fun _ _ => 0) ⟨#[], #[.agg (sCells 0 0 ⟨#[]⟩ 0 (.slice none 0 0)), .string ⟨#[]⟩, .agg #[.int .i64 0, .int .i64 0]], []⟩).memory Tryd.f5.params.toList Rows.failKeepsSpec.vars false #[.agg (sCells 0 0 ⟨#[]⟩ 0 (.slice none 0 0)), .string ⟨#[]⟩, .agg #[.int .i64 0, .int .i64 0]].toList 8 = some ([.agg [.lit (.int .i64 0), .lit (.int .i64 0), .lit (.string []), .lit (.int .i64 0), .nil], .lit (.string []), .agg [.lit (.int .i64 0), .lit (.int .i64 0)]], [], places) :=
  ⟨[], by kernel_rfl⟩
set_option maxRecDepth 100000 in
theorem failKeeps_lifted (os : Os) (started : os.Started) (H : Type) (enc : TypeId × Value → H) (F : Stop.Interp) :
    ReturnsInHanded {} Tryd.checked os 5 .any ((OpenSpec.ofChange Rows.failKeepsSpec).preRow enc Tryd.prog Tryd.f5 Rows.failKeepsRow.domain false Rows.failKeepsRow.laid) (((OpenSpec.ofChange Rows.failKeepsSpec).at F).post enc Tryd.prog Tryd.f5 false true false false) := by
  obtain ⟨places, hx⟩ := reads os enc
  refine returnsInHanded_of_row (C := Tryd.checked) (s := OpenSpec.ofChange Rows.failKeepsSpec) own started (by kernel_rfl) Tryd.func5
    (witness_row_at (enc := enc) (C := Tryd.checked) false (laidWorld os) #[.agg (sCells 0 0 ⟨#[]⟩ 0 (.slice none 0 0)), .string ⟨#[]⟩, .agg #[.int .i64 0, .int .i64 0]] rfl (by kernel_rfl) (by kernel_rfl) (by kernel_rfl)
      (OpenSpec.preRow_of_cond 8 hx (by kernel_rfl) (fun k hk => by cases hk) (by kernel_rfl) (laid_met os _))) ?_
  intro W base args ds gs before hval0 hW _ _ _ hL hsh _
  have hval : ∀ (j : Nat) t v, Tryd.f5.params[j]? = some t → args[j]? = some v → Value.okWide Tryd.prog W .any base t v := hval0
  have hW' := hW
  obtain ⟨p, q, hA0, hV, rfl, hfz, hnd⟩ := hW
  have hA : DataW.TrodAll enc Tryd.prog W 0 (fun _ => true) true Tryd.f5.params.toList args.toList ds p := hA0
  rw [Tryd.params5] at hA hval
  obtain ⟨v0, vs0, d0, ds0, p0, q0, hargs, rfl, rfl, h0, r0⟩ := trodAll_cons hA
  obtain ⟨v1, vs1, d1, ds1, p1, q1, rfl, rfl, rfl, h1, r1⟩ := trodAll_cons r0
  obtain ⟨v2, vs2, d2, ds2, p2, q2, rfl, rfl, rfl, h2, r2⟩ := trodAll_cons r1
  obtain ⟨rfl, rfl, rfl⟩ := trodAll_nil r2
  obtain rfl : args = #[v0, v1, v2] := by cases args; simp_all
  obtain ⟨rfl, rfl⟩ := trodVars_none hV
  obtain ⟨t, l, wh, c, v, ns, rfl, hv⟩ := open_S (hval 0 _ v0 rfl rfl) h0
  obtain ⟨a, rfl, _, _, _⟩ := Go.ChangeMaps.open_string Tryd.underlying9 (hval 1 _ v1 rfl rfl) h1
  obtain ⟨x, y, rfl⟩ := open_2 (hval 2 _ v2 rfl rfl)
  have hT : ETy (World.mm W) := eTy_of_laid (l := Rows.failKeepsRow.laid) (by first | exact List.mem_singleton.2 rfl | simp) (show laidMet _ _ _ ∧ handlesMet _ _ _ from hL).2 hsh
  refine (keeps_walk (Has.new W) hT t l wh c v ns hv a x y).mono fun r W' ⟨hr, hb⟩ => ⟨_, hr, ?_⟩
  exact law_post laidOut (by rw [Tryd.params5]; decide +kernel) rfl Tryd.underlying4 rfl rfl hW' (hb.toBelow fun _ _ h => h)

theorem failKeeps_said : Rows.FailKeepsSaid :=
  OpenClaim.holds_of_cond 5 Tryd.f5 rfl rfl rfl rfl rfl rfl rfl ⟨rfl, rfl, rfl, rfl, rfl⟩ rfl rfl rfl rfl rfl (by kernel_rfl) Tryd.func5 (by kernel_rfl)
    (of_decide_eq_true (by kernel_rfl)) (by unfold Func.isWrapper; first | (rw [if_pos (by decide +kernel)]; kernel_rfl) | (rw [if_neg (by decide +kernel)]; exact ⟨rfl, rfl⟩))
    (fun os started H enc _ F => by rw [OpenClaim.pre_eq_preRow]; exact failKeeps_lifted os started H enc F)

theorem failKeeps_plain (f : FuncId) (fn : Func) (hf : Tryd.pinned.checked.prog.funcNamed "burnbag/burnbaglaw08.FailKeeps" = some f) (hfn : Tryd.pinned.checked.prog.funcs[f]? = some fn) :
    true = Tryd.pinned.checked.prog.looks [] ∧ ∀ (j : Nat) t, fn.params[j]? = some t → Tryd.pinned.checked.prog.wantsStandIn t = false := by
  obtain rfl : f = 5 := Option.some.inj ((show Tryd.prog.funcNamed "burnbag/burnbaglaw08.FailKeeps" = some 5 by kernel_rfl).symm.trans hf) |>.symm
  obtain rfl : fn = Tryd.f5 := (Option.some.inj (Tryd.func5.symm.trans hfn)).symm
  refine ⟨by kernel_rfl, fun j t ht => ?_⟩
  rw [Tryd.params5] at ht
  rcases j with _ | _ | _ | j
  · cases ht; exact (show Tryd.prog.wantsStandIn 25 = false by kernel_rfl)
  · cases ht; exact (show Tryd.prog.wantsStandIn 9 = false by kernel_rfl)
  · cases ht; exact (show Tryd.prog.wantsStandIn 47 = false by kernel_rfl)
  · simp at ht

theorem failKeeps_holds : Rows.FailKeepsCardSaid :=
  Claim7.holds_tied_plain_at .later [] _ _ _ _ failKeeps_said (fun _ h => by cases h) (by kernel_rfl) (fun _ h => by cases h) failKeeps_row_tie rfl ⟨rfl, rfl⟩ (by kernel_rfl) rfl failKeeps_plain (by kernel_rfl)
#print axioms failKeeps_holds
end Go.Proofs.YtillefeoponkjaaDoor
