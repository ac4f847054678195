/- TraceNames returns true for any configuration, any number and any name, and leaves its arguments as they were; the package-level tables of the library start as the program's text lays them. No other condition. -/
import Derived.Test.YtenpijejdibjpaaDoorTraceO
import Derived.Test.YtenpijejdibjpaaDoorOpen
import Derived.Test.YtenpijejdibjpaaDoorCards
import Derived.Test.YtenpijejdibjpaaDoorTie
import Derived.Deep.DeepHandedRow
import Derived.Lib.LaidTab
import Derived.ChangeMaps5
namespace Go.Proofs.YtenpijejdibjpaaDoor
open Go.ChangeShapes Go.WideShapes Go.ChangeAt Go.RowKit Go.ChangeMaps
set_option linter.unusedVariables false
set_option linter.unusedSimpArgs false
set_option linter.unnecessarySimpa false

theorem names_no_len : strs ([] : List ByteArray) = [] := rfl
theorem traceNames_walk (W : World) (c : Nat → Int) (a : Int) (s : ByteArray) :
    Calls Tryd.prog 3 #[confV c, .int .i64 a, .string s] W fun r w' => r = .returned (.bool true) ∧ Below W.heap.size W w' := by
  have h := Has.new W
  by_cases hc : ConfMay c
  · have hl := names_len hc
    have hlen : ((allP c (c 0).toNat).map nmOf).length ≤ 2000 := by
      obtain ⟨⟨g0, g1⟩, _, _, _, ⟨g2, g3⟩, ⟨g4, g5⟩, _⟩ := hc
      have := allP_length c (c 0).toNat (by omega) (by omega)
      rw [List.length_map]
      omega
    have NM : ∀ (M : Mm) (w : World) (a : Nat), Has W M w → a < ((allP c (c 0).toNat).map nmOf).length → Calls Tryd.prog 7 #[confV c, .int .i64 a] w fun e w' => e = .returned (.string (((allP c (c 0).toNat).map nmOf).getD a ⟨#[]⟩)) ∧ Has W M w' := fun M w a h ha => by
      obtain ⟨lv, r, k, i, j, al, a1, a2, a3, a4, a5, a6, a7, a8, a9, ag⟩ := place_ex hc (a := a) (by omega)
      rw [names_get ag]
      refine (name_in h c hc a r lv (by omega) (by omega) a1 a2 (by omega)).mono fun e w' ⟨k', i', j', hk', h1, h2, h3, h4, he, hw⟩ => ?_
      obtain rfl := kind_one hc a3 hk' a4 a5 h1 h2
      obtain rfl : i = i' := by omega
      obtain rfl : j = j' := by omega
      exact ⟨he, hw⟩
    refine (traceNames_any h c a s ((allP c (c 0).toNat).map nmOf) hlen (names_inj hc) (fun M w h => refNames_yes h c hc) (fun M w h => ?_) (fun M w h => place_yes h c hc s _ hl hlen NM)).mono fun r w' ⟨hr, hw⟩ => ⟨hr, hw.toBelow fun _ _ h => h⟩
    by_cases h0 : 0 ≤ a
    · by_cases h1 : a < c 0 * firsts c 10
      · have := NM M w a.toNat h (by omega)
        rw [Int.toNat_of_nonneg h0] at this
        rwa [nameAt, if_pos h0]
      · have e : nameAt ((allP c (c 0).toNat).map nmOf) a = ⟨#[]⟩ := by
          rw [nameAt, if_pos h0, List.getD, List.getElem?_eq_none (by omega)]
          rfl
        rw [e]
        exact name_out h c hc a (.inr (by omega))
    · rw [nameAt, if_neg h0]
      exact name_out h c hc a (.inl (by omega))
  · have e : ∀ a, nameAt [] a = ⟨#[]⟩ := fun a => by unfold nameAt; split <;> rfl
    refine (traceNames_any h c a s [] (by simp) (fun i j hi _ _ => absurd hi (by simp)) (fun M w h => (refNames_no h c hc).mono fun r w' ⟨hr, hw⟩ => ⟨_, hr, Acc.nil hw _ _⟩) (fun M w h => by rw [e]; exact name_no h c hc a)
      (fun M w h => place_no h c hc s)).mono fun r w' ⟨hr, hw⟩ => ⟨hr, hw.toBelow fun _ _ h => h⟩

theorem cellsConf : Tryd.prog.cellsOf 24 = 14 := by kernel_rfl
theorem typesConf : Tryd.prog.cellTypes Tryd.prog.depth 24 = some (List.replicate 14 3) := by kernel_rfl
/-- The cells that a table's datum reads as. -/
def litCells {H : Type} : DataW H → Array Value
  | .agg ds => (ds.map fun d => match d with | .lit (.int k n) => Value.int k n | _ => undef).toArray
  | _ => #[]
/-- A world for the witness: the tables hold what the program's text lays. -/
noncomputable def laidWorld (os : Os) : World :=
  let w := World.holding Tryd.prog os ⟨#[], #[], []⟩
  let put (g : Nat) (d : DataW Unit) (w : World) : World := { w with heap := w.heap.modify g fun
    | .cells _ t frozen => .cells (litCells d) t frozen
    | o => o }
  put 0 Rows.laid_internal_strconv_uint64pow10 (put 1 Rows.laid_math_bits_deBruijn32tab (put 2 Rows.laid_math_bits_deBruijn64tab w))
theorem laid_met (os : Os) : laidMet Tryd.prog Rows.traceNamesRow.laid ((laidWorld os).forCall (fun _ _ => 0) ⟨#[], #[.agg #[.int .i64 0, .int .i64 0, .int .i64 0, .int .i64 0, .int .i64 0, .int .i64 0, .int .i64 0, .int .i64 0, .int .i64 0, .int .i64 0, .int .i64 0, .int .i64 0, .int .i64 0, .int .i64 0], .int .i64 0, .string ⟨#[]⟩], []⟩).memory :=
  laidMet_of_run' 8 (by kernel_rfl) (by kernel_rfl)
theorem reads (os : Os) {H : Type} (enc : TypeId × Value → H) : ∃ places, DataW.whole enc Tryd.prog ((laidWorld os).forCall (fun _ _ => 0) ⟨#[], #[.agg #[.int .i64 0, .int .i64 0, .int .i64 0, .int .i64 0, .int .i64 0, .int .i64 0, .int .i64 0, .int .i64 0, .int .i64 0, .int .i64 0, .int .i64 0, .int .i64 0, .int .i64 0, .int .i64 0], .int .i64 0, .string ⟨#[]⟩], []⟩).memory Tryd.f3.params.toList Rows.traceNamesSpec.vars false #[.agg #[.int .i64 0, .int .i64 0, .int .i64 0, .int .i64 0, .int .i64 0, .int .i64 0, .int .i64 0, .int .i64 0, .int .i64 0, .int .i64 0, .int .i64 0, .int .i64 0, .int .i64 0, .int .i64 0], .int .i64 0, .string ⟨#[]⟩].toList 8 = some ([.agg [.lit (.int .i64 0), .lit (.int .i64 0), .agg [.lit (.int .i64 0), .lit (.int .i64 0), .lit (.int .i64 0), .lit (.int .i64 0), .lit (.int .i64 0), .lit (.int .i64 0), .lit (.int .i64 0), .lit (.int .i64 0)], .lit (.int .i64 0), .lit (.int .i64 0), .lit (.int .i64 0), .lit (.int .i64 0)], .lit (.int .i64 0), .lit (.string [])], [], places) :=
  ⟨[], by kernel_rfl⟩
theorem cells_one {P : Program} {w : World} {r : Reach} {b : Nat} {t e : TypeId} {v : Value} (hu : P.underlying t = some (.slice e)) (hv : Value.okWide P w r b t v) : v.cells = #[v] := by
  simp only [Value.okWide, hu] at hv
  unfold Cell.okWide at hv
  rw [hu] at hv
  cases v <;> first | rfl | (simp [Cell.ok, hu] at hv)

set_option maxRecDepth 100000 in
theorem traceNames_lifted (os : Os) (started : os.Started) (H : Type) (enc : TypeId × Value → H) (F : Stop.Interp) :
    ReturnsInHanded {} Tryd.checked os 3 .any ((OpenSpec.ofChange Rows.traceNamesSpec).preRow enc Tryd.prog Tryd.f3 Rows.traceNamesRow.domain false Rows.traceNamesRow.laid) (((OpenSpec.ofChange Rows.traceNamesSpec).at F).post enc Tryd.prog Tryd.f3 false true false false) := by
  obtain ⟨places, hx⟩ := reads os enc
  refine returnsInHanded_of_row (C := Tryd.checked) (s := OpenSpec.ofChange Rows.traceNamesSpec) own started (by kernel_rfl) Tryd.func3
    (witness_row_at (enc := enc) (C := Tryd.checked) false (laidWorld os) #[.agg #[.int .i64 0, .int .i64 0, .int .i64 0, .int .i64 0, .int .i64 0, .int .i64 0, .int .i64 0, .int .i64 0, .int .i64 0, .int .i64 0, .int .i64 0, .int .i64 0, .int .i64 0, .int .i64 0], .int .i64 0, .string ⟨#[]⟩] rfl (by kernel_rfl) (by kernel_rfl) (by kernel_rfl)
      (OpenSpec.preRow_of_cond 8 hx (by kernel_rfl) (fun k hk => by cases hk) (by kernel_rfl) (laid_met os))) ?_
  intro W base args ds gs before hval0 hW _ _ _ hL _ _
  have hval : ∀ (j : Nat) t v, Tryd.f3.params[j]? = some t → args[j]? = some v → Value.okWide Tryd.prog W .any base t v := hval0
  have hW' := hW
  obtain ⟨p, q, hA0, hV, rfl, hfz, hnd⟩ := hW
  have hA : DataW.TrodAll enc Tryd.prog W 0 (fun _ => true) true Tryd.f3.params.toList args.toList ds p := hA0
  rw [Tryd.params3] at hA hval
  obtain ⟨v0, vs0, d0, ds0, p0, q0, hargs, rfl, rfl, h0, r0⟩ := trodAll_cons hA
  obtain ⟨v1, vs1, d1, ds1, p1, q1, rfl, rfl, rfl, h1, r1⟩ := trodAll_cons r0
  obtain ⟨v2, vs2, d2, ds2, p2, q2, rfl, rfl, rfl, h2, r2⟩ := trodAll_cons r1
  obtain ⟨rfl, rfl, rfl⟩ := trodAll_nil r2
  obtain rfl : args = #[v0, v1, v2] := by cases args; simp_all
  obtain ⟨rfl, rfl⟩ := trodVars_none hV
  obtain ⟨c, rfl, _⟩ := open_ints_agg Tryd.underlying24 cellsConf typesConf Tryd.underlying3 (hval 0 _ v0 rfl rfl)
  obtain ⟨a, rfl, rfl, rfl, _⟩ := open_int Tryd.underlying3 (hval 1 _ v1 rfl rfl) h1
  obtain ⟨s, rfl, rfl, rfl, _⟩ := open_string Tryd.underlying9 (hval 2 _ v2 rfl rfl) h2
  refine (traceNames_walk W c a s).mono fun r W' ⟨hr, hb⟩ => ⟨_, hr, ?_⟩
  exact law_post laidOut (by rw [Tryd.params3]; decide +kernel) rfl Tryd.underlying4 rfl rfl hW' hb

theorem traceNames_said : Rows.TraceNamesSaid :=
  OpenClaim.holds_of_cond 3 Tryd.f3 rfl rfl rfl rfl rfl rfl rfl ⟨rfl, rfl, rfl, rfl, rfl⟩ rfl rfl rfl rfl rfl (by kernel_rfl) Tryd.func3 (by kernel_rfl)
    (of_decide_eq_true (by kernel_rfl)) (by unfold Func.isWrapper; first | (rw [if_pos (by decide +kernel)]; kernel_rfl) | (rw [if_neg (by decide +kernel)]; exact ⟨rfl, rfl⟩))
    (fun os started H enc _ F => by rw [OpenClaim.pre_eq_preRow]; exact traceNames_lifted os started H enc F)

theorem traceNames_plain (f : FuncId) (fn : Func) (hf : Tryd.pinned.checked.prog.funcNamed "burnbag/burnbaglaw43.TraceNames" = some f) (hfn : Tryd.pinned.checked.prog.funcs[f]? = some fn) :
    false = Tryd.pinned.checked.prog.looks [] ∧ ∀ (j : Nat) t, fn.params[j]? = some t → Tryd.pinned.checked.prog.wantsStandIn t = false := by
  obtain rfl : f = 3 := Option.some.inj ((show Tryd.prog.funcNamed "burnbag/burnbaglaw43.TraceNames" = some 3 by kernel_rfl).symm.trans hf) |>.symm
  obtain rfl : fn = Tryd.f3 := (Option.some.inj (Tryd.func3.symm.trans hfn)).symm
  refine ⟨by kernel_rfl, fun j t ht => ?_⟩
  rw [Tryd.params3] at ht
  rcases j with _ | _ | _ | j
  · cases ht; exact (show Tryd.prog.wantsStandIn 24 = false by kernel_rfl)
  · cases ht; exact (show Tryd.prog.wantsStandIn 3 = false by kernel_rfl)
  · cases ht; exact (show Tryd.prog.wantsStandIn 9 = false by kernel_rfl)
  · simp at ht

theorem traceNames_holds : Rows.TraceNamesCardSaid :=
  Claim7.holds_tied_plain_at .later [] _ _ _ _ traceNames_said (fun _ h => by cases h) (by kernel_rfl) (fun _ h => by cases h) traceNames_row_tie rfl ⟨rfl, rfl⟩ (by kernel_rfl) rfl traceNames_plain (by kernel_rfl)
#print axioms traceNames_holds
end Go.Proofs.YtenpijejdibjpaaDoor
