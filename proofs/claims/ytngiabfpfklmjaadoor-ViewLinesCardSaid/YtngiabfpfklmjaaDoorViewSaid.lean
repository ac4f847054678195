/- ViewLines returns true for anything that is seen and any two lists of what is seen, and leaves its arguments as they were; the package-level tables of the library start as the program's text lays them. No other condition. -/
import Derived.Test.YtngiabfpfklmjaaDoorViewLaw
import Derived.Test.YtngiabfpfklmjaaDoorOpenR
import Derived.Test.YtngiabfpfklmjaaDoorCards
import Derived.Test.YtngiabfpfklmjaaDoorTie
import Derived.Deep.DeepHandedRow
import Derived.Lib.LaidTab
import Derived.Stop.LaidErr
namespace Go.Proofs.YtngiabfpfklmjaaDoor
open Go.ChangeShapes Go.WideShapes Go.ChangeAt Go.RowKit
set_option linter.unusedVariables false
set_option linter.unusedSimpArgs false
set_option linter.unnecessarySimpa false
section
variable {H : Type} {enc : TypeId × Value → H} {w : World} {base : Nat} {held : Bool}
theorem one_i64 {spare : Nat → Bool} {n : Nat} {t : TypeId} {a : Value} {x : Option (DataW H × List MemPlace)} (hu : Tryd.prog.underlying t = some (.int .i64)) (h : DataW.trod enc Tryd.prog w base spare held n t [a] = x) (hx : x.isSome = true) : ∃ z, a = .int .i64 z ∧ -9223372036854775808 ≤ z ∧ z ≤ 9223372036854775807 := by
  cases hx' : x with
  | none => rw [hx'] at hx; cases hx
  | some y =>
    rw [hx'] at h
    obtain ⟨z, hz, _, hw⟩ := DataW.trod_int hu h
    simp only [List.cons.injEq, and_true] at hz
    refine ⟨z, hz, ?_⟩
    simpa [Lit.wf, IntKind.min, IntKind.max, IntKind.signed, IntKind.bits] using hw
theorem one_u64 {spare : Nat → Bool} {n : Nat} {t : TypeId} {a : Value} {x : Option (DataW H × List MemPlace)} (hu : Tryd.prog.underlying t = some (.int .u64)) (h : DataW.trod enc Tryd.prog w base spare held n t [a] = x) (hx : x.isSome = true) : ∃ z : Nat, a = .int .u64 (z : Int) ∧ z < 18446744073709551616 := by
  cases hx' : x with
  | none => rw [hx'] at hx; cases hx
  | some y =>
    rw [hx'] at h
    obtain ⟨z, hz, _, hw⟩ := DataW.trod_int hu h
    simp only [List.cons.injEq, and_true] at hz
    have hb : 0 ≤ z ∧ z ≤ 18446744073709551615 := by simpa [Lit.wf, IntKind.min, IntKind.max, IntKind.signed, IntKind.bits] using hw
    exact ⟨z.toNat, by rw [hz, Int.toNat_of_nonneg hb.1], by omega⟩
theorem seen_cells {spare : Nat → Bool} (n : Nat) (cs : List Value) (x : DataW H × List MemPlace) (h : DataW.trod enc Tryd.prog w base spare held n 31 cs = some x) : ∃ y : Sn, y.Ok ∧ cs = encS y := by
  obtain ⟨ys, m, _, _, hl, hyl, hfl⟩ := DataW.trod_struct Tryd.underlying31 h
  have hl : cs.length = 18 := hl.trans (by kernel_rfl)
  match cs, hl with
  | [a0, a1, a2, a3, a4, a5, a6, a7, a8, a9, a10, a11, a12, a13, a14, a15, a16, a17], _ =>
    have hy : ∀ i, i < 7 → (ys[i]?).isSome = true := fun i hi => by rw [List.getElem?_eq_getElem (by rw [hyl]; exact hi)]; rfl
    obtain ⟨z_t, rfl, b_t⟩ := one_i64 Tryd.underlying3 (hfl 0 _ rfl) (hy 0 (by omega))
    obtain ⟨z_wh, rfl, b_wh⟩ := one_i64 Tryd.underlying3 (hfl 1 _ rfl) (hy 1 (by omega))
    obtain ⟨z_th, rfl, b_th⟩ := one_i64 Tryd.underlying3 (hfl 2 _ rfl) (hy 2 (by omega))
    obtain ⟨z_lv, rfl, b_lv⟩ := one_i64 Tryd.underlying3 (hfl 3 _ rfl) (hy 3 (by omega))
    obtain ⟨z_hd, rfl, b_hd⟩ := one_u64 Tryd.underlying22 (hfl 6 _ rfl) (hy 6 (by omega))
    have hC := hfl 4 _ rfl
    rw [List.getElem?_eq_getElem (by rw [hyl]; decide)] at hC
    obtain ⟨cq, mc, _, _, _, hcl, hgl⟩ := DataW.trod_struct Tryd.underlying26 hC
    have hc : ∀ i, i < 6 → (cq[i]?).isSome = true := fun i hi => by rw [List.getElem?_eq_getElem (by rw [hcl]; exact hi)]; rfl
    obtain ⟨z_op, rfl, b_op⟩ := one_i64 Tryd.underlying3 (hgl 0 _ rfl) (hc 0 (by omega))
    obtain ⟨z_cl, rfl, b_cl⟩ := one_i64 Tryd.underlying3 (hgl 1 _ rfl) (hc 1 (by omega))
    obtain ⟨z_key, rfl, b_key⟩ := one_i64 Tryd.underlying2 (hgl 2 _ rfl) (hc 2 (by omega))
    obtain ⟨z_ch, rfl, b_ch⟩ := one_u64 Tryd.underlying22 (hgl 4 _ rfl) (hc 4 (by omega))
    obtain ⟨z_reg, rfl, b_reg⟩ := one_i64 Tryd.underlying3 (hgl 5 _ rfl) (hc 5 (by omega))
    have hP := hgl 3 _ rfl
    rw [List.getElem?_eq_getElem (by rw [hcl]; decide)] at hP
    obtain ⟨pq, mp, _, _, _, hpl, hql⟩ := DataW.trod_struct Tryd.underlying24 hP
    have hp : ∀ i, i < 2 → (pq[i]?).isSome = true := fun i hi => by rw [List.getElem?_eq_getElem (by rw [hpl]; exact hi)]; rfl
    obtain ⟨z_pa, rfl, b_pa⟩ := one_u64 Tryd.underlying22 (hql 0 _ rfl) (hp 0 (by omega))
    obtain ⟨z_pb, rfl, b_pb⟩ := one_u64 Tryd.underlying22 (hql 1 _ rfl) (hp 1 (by omega))
    have hA := hfl 5 _ rfl
    rw [List.getElem?_eq_getElem (by rw [hyl]; decide)] at hA
    obtain ⟨aq, ma, _, _, _, hal, hhl⟩ := DataW.trod_struct Tryd.underlying29 hA
    have ha : ∀ i, i < 5 → (aq[i]?).isSome = true := fun i hi => by rw [List.getElem?_eq_getElem (by rw [hal]; exact hi)]; rfl
    obtain ⟨z_err, rfl, b_err⟩ := one_i64 Tryd.underlying27 (hhl 0 _ rfl) (ha 0 (by omega))
    obtain ⟨z_ah, rfl, b_ah⟩ := one_u64 Tryd.underlying22 (hhl 2 _ rfl) (ha 2 (by omega))
    obtain ⟨z_n, rfl, b_n⟩ := one_i64 Tryd.underlying3 (hhl 3 _ rfl) (ha 3 (by omega))
    obtain ⟨z_ak, rfl, b_ak⟩ := one_i64 Tryd.underlying2 (hhl 4 _ rfl) (ha 4 (by omega))
    have hQ := hhl 1 _ rfl
    rw [List.getElem?_eq_getElem (by rw [hal]; decide)] at hQ
    obtain ⟨qq, mq, _, _, _, hrl, hsl⟩ := DataW.trod_struct Tryd.underlying24 hQ
    have hq : ∀ i, i < 2 → (qq[i]?).isSome = true := fun i hi => by rw [List.getElem?_eq_getElem (by rw [hrl]; exact hi)]; rfl
    obtain ⟨z_qa, rfl, b_qa⟩ := one_u64 Tryd.underlying22 (hsl 0 _ rfl) (hq 0 (by omega))
    obtain ⟨z_qb, rfl, b_qb⟩ := one_u64 Tryd.underlying22 (hsl 1 _ rfl) (hq 1 (by omega))
    exact ⟨⟨z_t, z_wh, z_th, z_lv, z_op, z_cl, z_key, z_pa, z_pb, z_ch, z_reg, z_err, z_qa, z_qb, z_ah, z_n, z_ak, z_hd⟩, ⟨b_t, b_wh, b_th, b_lv, b_op, b_cl, b_key, b_pa, b_pb, b_ch, b_reg, b_err, b_qa, b_qb, b_ah, b_n, b_ak, b_hd⟩, rfl⟩
theorem open_seen {r : Reach} {b : Nat} {v : Value} {d : DataW H} {ps : List MemPlace} (hv : Value.okWide Tryd.prog w r b 31 v) (h : DataW.Trod enc Tryd.prog w base (fun _ => true) held 31 v d ps) : ∃ x : Sn, x.Ok ∧ v = .agg x.cells := by
  have hu := Tryd.underlying31
  simp only [Value.okWide, hu] at hv
  obtain ⟨cs, rfl, _⟩ := hv
  obtain ⟨fuel, hf⟩ := h
  obtain ⟨y, hy, he⟩ := seen_cells fuel _ _ hf
  refine ⟨y, hy, congrArg Value.agg (Array.toList_inj.1 ?_)⟩
  exact he
end
theorem powT_of_laid {W : World} (h : laidMet Tryd.prog Rows.viewLinesRow.laid W) : PowT (World.mm W) := by
  have h2 : laidMet Tryd.prog [("internal/strconv.uint64pow10", Lib.tabData .u64 Lib.pow10Tab)] W := h.tail.tail
  have ht := Lib.tabIs_of_head pow_named (by kernel_rfl) Tryd.underlying78 Tryd.underlying22 (by kernel_rfl) (by kernel_rfl) h2
  unfold Lib.TabIs World.var? at ht
  rw [pow_named] at ht
  simp only [Option.bind_some] at ht
  split at ht
  · rename_i cs t fz hb
    simp only [Option.some.injEq] at ht
    subst ht
    exact ⟨t, fz, hb⟩
  · cases ht
/-- The cells that a table's datum reads as. -/
def litCells {H : Type} : DataW H → Array Value
  | .agg ds => (ds.map fun d => match d with | .lit (.int k n) => Value.int k n | _ => undef).toArray
  | _ => #[]
/-- A world for the witness: the tables hold what the program's text lays. -/
noncomputable def laidWorld (os : Os) : World :=
  let w := World.holding Tryd.prog os ⟨#[], #[], []⟩
  let put (g : Nat) (d : DataW Unit) (w : World) : World := { w with heap := w.heap.modify g fun
    | .cells _ t frozen => .cells (litCells d) t frozen
    | o => o }
  put 0 Rows.laid_internal_strconv_uint64pow10 (put 1 Rows.laid_math_bits_deBruijn32tab (put 2 Rows.laid_math_bits_deBruijn64tab w))
theorem laid_met (os : Os) : laidMet Tryd.prog Rows.viewLinesRow.laid ((laidWorld os).forCall (fun _ _ => 0) ⟨#[], #[.agg seen0.cells, .slice none 0 0, .slice none 0 0], []⟩).memory :=
  laidMet_of_run' 8 (by kernel_rfl) (by kernel_rfl)
theorem reads (os : Os) {H : Type} (enc : TypeId × Value → H) : ∃ places, DataW.whole enc Tryd.prog ((laidWorld os).forCall (fun _ _ => 0) ⟨#[], #[.agg seen0.cells, .slice none 0 0, .slice none 0 0], []⟩).memory Tryd.f3.params.toList Rows.viewLinesSpec.vars false #[.agg seen0.cells, .slice none 0 0, .slice none 0 0].toList 8 = some ([.agg [.lit (.int .i64 0), .lit (.int .i64 0), .lit (.int .i64 0), .lit (.int .i64 0), .agg [.lit (.int .i64 0), .lit (.int .i64 0), .lit (.int .i64 0), .agg [.lit (.int .u64 0), .lit (.int .u64 0)], .lit (.int .u64 0), .lit (.int .i64 0)], .agg [.lit (.int .i64 0), .agg [.lit (.int .u64 0), .lit (.int .u64 0)], .lit (.int .u64 0), .lit (.int .i64 0), .lit (.int .i64 0)], .lit (.int .u64 0)], .nil, .nil], [], places) :=
  ⟨[], by kernel_rfl⟩
theorem cells_one {P : Program} {w : World} {r : Reach} {b : Nat} {t e : TypeId} {v : Value} (hu : P.underlying t = some (.slice e)) (hv : Value.okWide P w r b t v) : v.cells = #[v] := by
  simp only [Value.okWide, hu] at hv
  unfold Cell.okWide at hv
  rw [hu] at hv
  cases v <;> first | rfl | (simp [Cell.ok, hu] at hv)

set_option maxRecDepth 100000 in
theorem viewLines_lifted (os : Os) (started : os.Started) (H : Type) (enc : TypeId × Value → H) (F : Stop.Interp) :
    ReturnsInHanded {} Tryd.checked os 3 .any ((OpenSpec.ofChange Rows.viewLinesSpec).preRow enc Tryd.prog Tryd.f3 Rows.viewLinesRow.domain false Rows.viewLinesRow.laid) (((OpenSpec.ofChange Rows.viewLinesSpec).at F).post enc Tryd.prog Tryd.f3 false true false false) := by
  obtain ⟨places, hx⟩ := reads os enc
  refine returnsInHanded_of_row (C := Tryd.checked) (s := OpenSpec.ofChange Rows.viewLinesSpec) own started (by kernel_rfl) Tryd.func3
    (witness_row_at (enc := enc) (C := Tryd.checked) false (laidWorld os) #[.agg seen0.cells, .slice none 0 0, .slice none 0 0] rfl (by kernel_rfl) (by kernel_rfl) (by kernel_rfl)
      (OpenSpec.preRow_of_cond 8 hx (by kernel_rfl) (fun k hk => by cases hk) (by kernel_rfl) (laid_met os))) ?_
  intro W base args ds gs before hval0 hW _ _ _ hL _ _
  have hval : ∀ (j : Nat) t v, Tryd.f3.params[j]? = some t → args[j]? = some v → Value.okWide Tryd.prog W .any base t v := hval0
  have hW' := hW
  obtain ⟨p, q, hA0, hV, rfl, hfz, hnd⟩ := hW
  have hA : DataW.TrodAll enc Tryd.prog W 0 (fun _ => true) true Tryd.f3.params.toList args.toList ds p := hA0
  rw [Tryd.params3] at hA hval
  obtain ⟨v0, vs0, d0, ds0, p0, q0, hargs, rfl, rfl, h0, r0⟩ := trodAll_cons hA
  obtain ⟨v1, vs1, d1, ds1, p1, q1, rfl, rfl, rfl, h1, r1⟩ := trodAll_cons r0
  obtain ⟨v2, vs2, d2, ds2, p2, q2, rfl, rfl, rfl, h2, r2⟩ := trodAll_cons r1
  obtain ⟨rfl, rfl, rfl⟩ := trodAll_nil r2
  obtain rfl : args = #[v0, v1, v2] := by cases args; simp_all
  obtain ⟨rfl, rfl⟩ := trodVars_none hV
  obtain ⟨x, hx, rfl⟩ := open_seen (hval 0 _ v0 rfl rfl) h0
  obtain ⟨L, ha⟩ := open_rows (en := encS) encS_len (by omega) Tryd.underlying32 (by kernel_rfl) (fun m cs x h => (seen_cells m cs x h).imp fun _ h => h.2) (cells_one Tryd.underlying32 (hval 1 _ v1 rfl rfl)) h1
  obtain ⟨K, hb⟩ := open_rows (en := encS) encS_len (by omega) Tryd.underlying32 (by kernel_rfl) (fun m cs x h => (seen_cells m cs x h).imp fun _ h => h.2) (cells_one Tryd.underlying32 (hval 2 _ v2 rfl rfl)) h2
  refine (viewLines_walk (Has.new W) (powT_of_laid hL) x hx v1 v2 L K ha hb).mono fun r W' ⟨hr, hb⟩ => ⟨_, hr, ?_⟩
  exact law_post laidOut (by rw [Tryd.params3]; decide +kernel) rfl Tryd.underlying4 rfl rfl hW' (hb.toBelow fun _ _ h => h)

theorem viewLines_said : Rows.ViewLinesSaid :=
  OpenClaim.holds_of_cond 3 Tryd.f3 rfl rfl rfl rfl rfl rfl rfl ⟨rfl, rfl, rfl, rfl, rfl⟩ rfl rfl rfl rfl rfl (by kernel_rfl) Tryd.func3 (by kernel_rfl)
    (of_decide_eq_true (by kernel_rfl)) (by unfold Func.isWrapper; first | (rw [if_pos (by decide +kernel)]; kernel_rfl) | (rw [if_neg (by decide +kernel)]; exact ⟨rfl, rfl⟩))
    (fun os started H enc _ F => by rw [OpenClaim.pre_eq_preRow]; exact viewLines_lifted os started H enc F)

theorem viewLines_plain (f : FuncId) (fn : Func) (hf : Tryd.pinned.checked.prog.funcNamed "burnbag/burnbaglaw35.ViewLines" = some f) (hfn : Tryd.pinned.checked.prog.funcs[f]? = some fn) :
    false = Tryd.pinned.checked.prog.looks [] ∧ ∀ (j : Nat) t, fn.params[j]? = some t → Tryd.pinned.checked.prog.wantsStandIn t = false := by
  obtain rfl : f = 3 := Option.some.inj ((show Tryd.prog.funcNamed "burnbag/burnbaglaw35.ViewLines" = some 3 by kernel_rfl).symm.trans hf) |>.symm
  obtain rfl : fn = Tryd.f3 := (Option.some.inj (Tryd.func3.symm.trans hfn)).symm
  refine ⟨by kernel_rfl, fun j t ht => ?_⟩
  rw [Tryd.params3] at ht
  rcases j with _ | _ | _ | j
  · cases ht; exact (show Tryd.prog.wantsStandIn 31 = false by kernel_rfl)
  · cases ht; exact (show Tryd.prog.wantsStandIn 32 = false by kernel_rfl)
  · cases ht; exact (show Tryd.prog.wantsStandIn 32 = false by kernel_rfl)
  · simp at ht

theorem viewLines_holds : Rows.ViewLinesCardSaid :=
  Claim7.holds_tied_plain_at .later [] _ _ _ _ viewLines_said (fun _ h => by cases h) (by kernel_rfl) (fun _ h => by cases h) viewLines_row_tie rfl ⟨rfl, rfl⟩ (by kernel_rfl) rfl viewLines_plain (by kernel_rfl)
#print axioms viewLines_holds
end Go.Proofs.YtngiabfpfklmjaaDoor
