/- RestMeant returns true for any sight, configuration and level, and leaves its arguments as they were. No condition. -/
import Derived.Test.YtlpkimpdeeiaaaaGreatRgE
import Derived.Test.YtlpkimpdeeiaaaaGreatOpenR
import Derived.ChangeMaps5
namespace Go.Proofs.YtlpkimpdeeiaaaaGreat
section
open Go.ChangeShapes Go.WideShapes Go.ChangeAt Go.RowKit Go.ChangeMaps
set_option linter.unusedVariables false
set_option linter.unusedSimpArgs false
set_option linter.unnecessarySimpa false
section
variable {H : Type} {enc : TypeId × Value → H} {w : World} {base : Nat} {held : Bool}
theorem one_range {spare : Nat → Bool} {k : IntKind} {n : Nat} {t : TypeId} {a : Value} {x : Option (DataW H × List MemPlace)} (hu : Tryz.prog.underlying t = some (.int k)) (h : DataW.trod enc Tryz.prog w base spare held n t [a] = x) (hx : x.isSome = true) : ∃ z : Int, a = .int k z ∧ k.min ≤ z ∧ z ≤ k.max := by
  cases hx' : x with
  | none => rw [hx'] at hx; cases hx
  | some y =>
    rw [hx'] at h
    obtain ⟨z, hz, _, hw⟩ := DataW.trod_int hu h
    simp only [List.cons.injEq, and_true] at hz
    simp only [Lit.wf, Bool.and_eq_true, decide_eq_true_eq] at hw
    exact ⟨z, hz, hw.1, hw.2⟩
theorem one_slice {P : Program} {spare : Nat → Bool} {n : Nat} {t e : TypeId} {a : Value} {x : DataW H × List MemPlace} (hu : P.underlying t = some (.slice e)) (h : DataW.trod enc P w base spare held n t [a] = some x) : ∃ A l c, a = .slice A l c := by
  rcases Deep.open_slice hu h with ⟨h1, _⟩ | ⟨a, len, cap, m, n, D, Pl, h1, _⟩
  · exact ⟨none, 0, 0, by simpa using h1⟩
  · exact ⟨some a, len, cap, by simpa using h1⟩
abbrev RowB := { y : RowR // -9223372036854775808 ≤ y.key ∧ y.key ≤ 9223372036854775807 }
set_option maxRecDepth 100000 in
theorem row_cells {spare : Nat → Bool} (n : Nat) (cs : List Value) (x : DataW H × List MemPlace) (h : DataW.trod enc Tryz.prog w base spare held n 50 cs = some x) : ∃ y : RowB, cs = encRo y.1 := by
  obtain ⟨ys, m, _, _, hl, hyl, hfl⟩ := DataW.trod_struct Tryz.underlying50 h
  have hl : cs.length = 3 := hl.trans (by kernel_rfl)
  match cs, hl with
  | [a0, a1, a2], _ =>
    have hy : ∀ i, i < 2 → (ys[i]?).isSome = true := fun i hi => by rw [List.getElem?_eq_getElem (by rw [hyl]; exact hi)]; rfl
    obtain ⟨z0, rfl, b1, b2⟩ := one_range Tryz.underlying2 (hfl 0 _ rfl) (hy 0 (by omega))
    obtain ⟨y1, hy1⟩ := Option.isSome_iff_exists.1 (hy 1 (by omega))
    have h1 : DataW.trod enc Tryz.prog w base spare held m 48 [a1, a2] = some y1 := (hfl 1 _ rfl).trans hy1
    obtain ⟨zs, m2, _, _, _, hzl, hgl⟩ := DataW.trod_struct Tryz.underlying48 h1
    have hz : ∀ i, i < 2 → (zs[i]?).isSome = true := fun i hi => by rw [List.getElem?_eq_getElem (by rw [hzl]; exact hi)]; rfl
    obtain ⟨z1, rfl⟩ := one_int Tryz.underlying46 (hgl 0 _ rfl) (hz 0 (by omega))
    obtain ⟨z2, rfl⟩ := one_int Tryz.underlying46 (hgl 1 _ rfl) (hz 1 (by omega))
    exact ⟨⟨⟨z0, z1, z2⟩, b1, b2⟩, rfl⟩
theorem open_rowsB {n : Nat} {a : Value} {x : DataW H × List MemPlace} (h : DataW.trod enc Tryz.prog w base (fun _ => true) held n 22 [a] = some x) : ∃ (L : List RowR) (A : Option Addr) (l c : Nat), a = .slice A l c ∧ L.length = l ∧ KeyOk L ∧ Rd (World.mm w) 3 (.slice A l c) l (L.flatMap encRo) := by
  obtain ⟨A, l, c, rfl⟩ := one_slice Tryz.underlying22 h
  obtain ⟨L, hL⟩ := open_rows (α := RowB) (en := fun y => encRo y.1) (sz := 3) (fun _ => rfl) (by omega) Tryz.underlying22 (by kernel_rfl) (fun m cs x h => row_cells m cs x h) (v := .slice A l c) (d := x.1) (ps := x.2) rfl ⟨n, h⟩
  obtain ⟨_, A', c', e, _⟩ := id hL
  cases e
  refine ⟨L.map (·.1), A, L.length, c, rfl, by simp, fun y hy => ?_, by simpa [List.flatMap_map] using hL⟩
  obtain ⟨z, _, rfl⟩ := List.mem_map.1 hy
  exact z.2
abbrev NatB := { n : Nat // n < 18446744073709551616 }
theorem u64n_map (L : List NatB) : u64n (L.map (·.1)) = L.flatMap fun y => [Value.int .u64 (y.1 : Nat)] := by
  induction L with
  | nil => rfl
  | cons y L ih =>
    rw [List.flatMap_cons, ← ih]
    rfl
theorem open_u64s {n : Nat} {a : Value} {x : DataW H × List MemPlace} (h : DataW.trod enc Tryz.prog w base (fun _ => true) held n 24 [a] = some x) : ∃ (L : List Nat) (A : Option Addr) (l c : Nat), a = .slice A l c ∧ L.length = l ∧ (∀ y ∈ L, y < 18446744073709551616) ∧ Rd (World.mm w) 1 (.slice A l c) l (u64n L) := by
  obtain ⟨A, l, c, rfl⟩ := one_slice Tryz.underlying24 h
  obtain ⟨L, hL⟩ := open_rows (α := NatB) (en := fun y => [.int .u64 (y.1 : Nat)]) (sz := 1) (fun _ => rfl) (by omega) Tryz.underlying24 (by kernel_rfl) (fun m cs x h => by
    have hl : cs.length = 1 := (DataW.trod_int Tryz.underlying46 h).elim fun z hz => by rw [hz.1]; rfl
    match cs, hl with
    | [a], _ =>
      obtain ⟨z, rfl, b1, b2⟩ := one_range Tryz.underlying46 h rfl
      have b1' : 0 ≤ z := b1
      have b2' : z ≤ 18446744073709551615 := b2
      exact ⟨⟨z.toNat, by omega⟩, by simp [Int.toNat_of_nonneg b1']⟩) (v := .slice A l c) (d := x.1) (ps := x.2) rfl ⟨n, h⟩
  obtain ⟨_, A', c', e, _⟩ := id hL
  cases e
  refine ⟨L.map (·.1), A, L.length, c, rfl, by simp, fun y hy => ?_, ?_⟩
  · obtain ⟨z, _, rfl⟩ := List.mem_map.1 hy
    exact z.2
  · have e2 := u64n_map L
    rw [e2]
    exact hL
set_option maxHeartbeats 1000000 in
set_option maxRecDepth 100000 in
theorem open_sight {n : Nat} {cs : List Value} {x : DataW H × List MemPlace} (h : DataW.trod enc Tryz.prog w base (fun _ => true) held n 26 cs = some x) :
    ∃ (As Ac Aq Ar : Option Addr) (ns nc nq nr cS cC cq cr : Nat) (Ls Lc : List RowR) (R : List Nat) (fr li re he wo : Int) (ti cl : Bool), cs = (sgR (.slice As ns cS) (.slice Ac nc cC) (.slice Aq nq cq) (.slice Ar nr cr) fr li re he wo ti cl).toList ∧ Ls.length = ns ∧ Lc.length = nc ∧ R.length = nr ∧ KeyOk Ls ∧ KeyOk Lc ∧ (∀ y ∈ R, y < 18446744073709551616) ∧ Rd (World.mm w) 3 (.slice As ns cS) ns (Ls.flatMap encRo) ∧ Rd (World.mm w) 3 (.slice Ac nc cC) nc (Lc.flatMap encRo) ∧ Rd (World.mm w) 1 (.slice Ar nr cr) nr (u64n R) := by
  obtain ⟨ys, m, _, _, hl, hyl, hfl⟩ := DataW.trod_struct Tryz.underlying26 h
  have hl : cs.length = 11 := hl.trans (by kernel_rfl)
  clear h
  match cs, hl with
  | [a0, a1, a2, a3, a4, a5, a6, a7, a8, a9, a10], _ =>
    have hy : ∀ i, i < 11 → ∃ y, ys[i]? = some y := fun i hi => ⟨_, List.getElem?_eq_getElem (by rw [hyl]; exact hi)⟩
    have hs : ∀ i, i < 11 → (ys[i]?).isSome = true := fun i hi => by rw [List.getElem?_eq_getElem (by rw [hyl]; exact hi)]; rfl
    obtain ⟨y0, e0⟩ := hy 0 (by omega)
    obtain ⟨y1, e1⟩ := hy 1 (by omega)
    obtain ⟨y2, e2⟩ := hy 2 (by omega)
    obtain ⟨y3, e3⟩ := hy 3 (by omega)
    obtain ⟨y9, e9⟩ := hy 9 (by omega)
    obtain ⟨y10, e10⟩ := hy 10 (by omega)
    obtain ⟨Ls, As, ns, cS, rfl, ls, ks, rs⟩ := open_rowsB ((hfl 0 _ rfl).trans e0)
    obtain ⟨Lc, Ac, nc, cC, rfl, lc, kc, rc⟩ := open_rowsB ((hfl 1 _ rfl).trans e1)
    obtain ⟨Aq, nq, cq, rfl⟩ := one_slice Tryz.underlying23 ((hfl 2 _ rfl).trans e2)
    obtain ⟨R, Ar, nr, cr, rfl, lr, kr, rr⟩ := open_u64s ((hfl 3 _ rfl).trans e3)
    obtain ⟨z4, rfl⟩ := one_int Tryz.underlying3 (hfl 4 _ rfl) (hs 4 (by omega))
    obtain ⟨z5, rfl⟩ := one_int Tryz.underlying3 (hfl 5 _ rfl) (hs 5 (by omega))
    obtain ⟨z6, rfl⟩ := one_int Tryz.underlying3 (hfl 6 _ rfl) (hs 6 (by omega))
    obtain ⟨z7, rfl⟩ := one_int Tryz.underlying3 (hfl 7 _ rfl) (hs 7 (by omega))
    obtain ⟨z8, rfl⟩ := one_int Tryz.underlying3 (hfl 8 _ rfl) (hs 8 (by omega))
    obtain ⟨b9, g9, _⟩ := DataW.trod_bool Tryz.underlying4 ((hfl 9 _ rfl).trans e9)
    obtain ⟨b10, g10, _⟩ := DataW.trod_bool Tryz.underlying4 ((hfl 10 _ rfl).trans e10)
    have g9' : [a9] = [Value.bool b9] := g9
    obtain rfl : a9 = .bool b9 := by simpa using g9'
    have g10' : [a10] = [Value.bool b10] := g10
    obtain rfl : a10 = .bool b10 := by simpa using g10'
    exact ⟨As, Ac, Aq, Ar, ns, nc, nq, nr, cS, cC, cq, cr, Ls, Lc, R, z4, z5, z6, z7, z8, b9, b10, rfl, ls, lc, lr, ks, kc, kr, rs, rc, rr⟩
end
end
section
section
open Go.ChangeShapes Go.WideShapes Go.ChangeAt Go.RowKit Go.ChangeMaps
set_option linter.unusedVariables false
theorem cellsConf : Tryz.prog.cellsOf 29 = 14 := by kernel_rfl
theorem typesConf : Tryz.prog.cellTypes Tryz.prog.depth 29 = some (List.replicate 14 3) := by kernel_rfl
set_option maxRecDepth 100000 in
theorem restMeant_lifted (os : Os) (started : os.Started) (H : Type) (enc : TypeId × Value → H) :
    ReturnsInHanded {} Tryz.checked os 3 .any (Rows.restMeantSpec.pre6 enc Tryz.prog Tryz.f3 Rows.restMeantRow.domain false) (Rows.restMeantSpec.post enc Tryz.prog Tryz.f3 false true false false) := by
  refine returnsInHanded_of_change (C := Tryz.checked) own started (by kernel_rfl) Tryz.func3
    (ChangeSpec.witness6 (enc := enc) (C := Tryz.checked) false ⟨#[], #[.agg #[.slice none 0 0, .slice none 0 0, .slice none 0 0, .slice none 0 0, .int .i64 0, .int .i64 0, .int .i64 0, .int .i64 0, .int .i64 0, .bool false, .bool false], .agg #[.int .i64 0, .int .i64 0, .int .i64 0, .int .i64 0, .int .i64 0, .int .i64 0, .int .i64 0, .int .i64 0, .int .i64 0, .int .i64 0, .int .i64 0, .int .i64 0, .int .i64 0, .int .i64 0], .int .i64 0], []⟩ 8 (by kernel_rfl) (by kernel_rfl) (by kernel_rfl) (by kernel_rfl)) ?_
  intro W base args ds gs before hval0 hW _ _
  have hval : ∀ (j : Nat) t v, Tryz.f3.params[j]? = some t → args[j]? = some v → Value.okWide Tryz.prog W .any base t v := hval0
  have hW' := hW
  obtain ⟨p, q, hA0, hV, rfl, hfz, hnd⟩ := hW
  have hA : DataW.TrodAll enc Tryz.prog W 0 (fun _ => true) true Tryz.f3.params.toList args.toList ds p := hA0
  rw [Tryz.params3] at hA hval
  obtain ⟨v0, vs0, d0, ds0, p0, q0, hargs, rfl, rfl, h0, r0⟩ := trodAll_cons hA
  obtain ⟨v1, vs1, d1, ds1, p1, q1, rfl, rfl, rfl, h1, r1⟩ := trodAll_cons r0
  obtain ⟨v2, vs2, d2, ds2, p2, q2, rfl, rfl, rfl, h2, r2⟩ := trodAll_cons r1
  obtain ⟨rfl, rfl, rfl⟩ := trodAll_nil r2
  obtain rfl : args = #[v0, v1, v2] := by cases args; simp_all
  obtain ⟨rfl, rfl⟩ := trodVars_none hV
  obtain ⟨c, rfl, _⟩ := open_ints_agg Tryz.underlying29 cellsConf typesConf Tryz.underlying3 (hval 1 _ v1 rfl rfl)
  have hv2 : Value.okWide Tryz.prog _ .any base 3 v2 := hval 2 _ v2 rfl rfl
  obtain ⟨lv, rfl, _⟩ := open_int Tryz.underlying3 hv2 h2
  have hv0 : Value.okWide Tryz.prog _ .any base 26 v0 := hval 0 _ v0 rfl rfl
  simp only [Value.okWide, Tryz.underlying26] at hv0
  obtain ⟨cs, rfl, hsz, _⟩ := hv0
  obtain ⟨fuel, hf⟩ := h0
  obtain ⟨As, Ac, Aq, Ar, ns, nc, nq, nr, cS, cC, cq, cr, Ls, Lc, R, z4, z5, z6, z7, z8, b9, b10, ec, ls, lc, lr, ks, kc, kr, rs, rc, rr⟩ := open_sight hf
  have ec2 : cs = sgR (.slice As ns cS) (.slice Ac nc cC) (.slice Aq nq cq) (.slice Ar nr cr) z4 z5 z6 z7 z8 b9 b10 := by
    apply Array.ext'
    exact ec
  have key : Calls Tryz.prog 3 #[.agg cs, confV c, .int .i64 lv] W fun r w' => r = .returned (.bool true) ∧ Has W (World.mm W) w' := by
    rw [ec2]
    exact restMeantLaw_eq (Has.new W) z4 z5 z6 z7 z8 b9 b10 rs rc rr ls lc lr ks kc kr c lv
  refine key.mono fun r W' ⟨hr, hb⟩ => ⟨_, hr, ?_⟩
  exact law_post laidOut (by rw [Tryz.params3]; decide +kernel) rfl Tryz.underlying4 rfl rfl hW' (hb.toBelow fun _ _ h => h)

theorem restMeant_holds : Rows.RestMeantSaid :=
  OpenClaim.holds_of_wide 3 Tryz.f3 rfl rfl rfl rfl rfl rfl rfl ⟨rfl, rfl, rfl, rfl, rfl⟩ rfl rfl rfl rfl rfl (by kernel_rfl) Tryz.func3 (by kernel_rfl)
    (of_decide_eq_true (by kernel_rfl)) (by unfold Func.isWrapper; first | (rw [if_pos (by decide +kernel)]; kernel_rfl) | (rw [if_neg (by decide +kernel)]; exact ⟨rfl, rfl⟩))
    (fun os started H enc _ => restMeant_lifted os started H enc)
#print axioms restMeant_holds
end
end
end Go.Proofs.YtlpkimpdeeiaaaaGreat
