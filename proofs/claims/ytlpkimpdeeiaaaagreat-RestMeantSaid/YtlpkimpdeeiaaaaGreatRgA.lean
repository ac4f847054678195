/- Layer 37 (rest): the document's Parts; rows that rise; how many slots a sight takes. -/
import Derived.Test.YtlpkimpdeeiaaaaGreatField
import Derived.Test.YtlpkimpdeeiaaaaGreatLinks
import Derived.Test.YtlpkimpdeeiaaaaGreatLinksB
import Derived.Test.YtlpkimpdeeiaaaaGreatWalk
import Derived.Test.YtlpkimpdeeiaaaaGreatThr
import Derived.Test.YtlpkimpdeeiaaaaGreatCom
namespace Go.Proofs.YtlpkimpdeeiaaaaGreat
section
open Go.RowKit
set_option linter.unusedVariables false
set_option linter.unusedSimpArgs false
set_option linter.unnecessarySimpa false
def ubits (k : Int) : Nat := if 0 ≤ k then k.toNat else (18446744073709551616 + k).toNat
theorem ubits_lt {k : Int} (h0 : -9223372036854775808 ≤ k) (h1 : k ≤ 9223372036854775807) : ubits k < 18446744073709551616 := by unfold ubits; split <;> omega
theorem wrap_ubits {k : Int} (h0 : -9223372036854775808 ≤ k) (h1 : k ≤ 9223372036854775807) : IntKind.u64.wrap k = (ubits k : Nat) := by
  show k % 18446744073709551616 = _
  unfold ubits
  split <;> omega
def setOf (k : Int) : Nat := ubits k % 2
theorem setOf_lt (k : Int) : setOf k < 2 := Nat.mod_lt _ (by decide)
section
variable {σ w : World} {M : Mm}
theorem fieldBits_any (h : Has σ M w) {k : Int} (h0 : -9223372036854775808 ≤ k) (h1 : k ≤ 9223372036854775807) : Calls Tryz.prog 35 #[.int .i64 k] w fun r w' => r = .returned (.int .u64 (ubits k : Nat)) ∧ Has σ M w' := by
  have e := wrap_ubits h0 h1
  clear h0 h1
  go_enter Tryz.func35, Tryz.ntmps35
  go_wp2
  go_ret
  exact ⟨rfl, h⟩
theorem refBits_any (h : Has σ M w) {k : Int} (h0 : -9223372036854775808 ≤ k) (h1 : k ≤ 9223372036854775807) : Calls Tryz.prog 37 #[.int .i64 k] w fun r w' => r = .returned (.int .u64 (ubits k : Nat)) ∧ Has σ M w' := by
  by_cases hk : 0 ≤ k
  · have e := wrap_ubits h0 h1
    have g : decide (0 ≤ k) = true := decide_eq_true hk
    clear h0 h1 hk
    go_enter Tryz.func37, Tryz.ntmps37
    go_wp2
    go_ret
    exact ⟨rfl, h⟩
  · obtain ⟨u, rfl⟩ : ∃ u : Nat, k = -(u : Int) := ⟨(-k).toNat, by omega⟩
    have g : decide ((0 : Int) ≤ -(u : Int)) = false := decide_eq_false hk
    have g2 : decide (u = 0) = false := decide_eq_false (by omega)
    have g3 : ¬ u = 0 := by omega
    have w1 : IntKind.i64.wrap (-(u : Int) + 1) = -(u : Int) + 1 := IntWalk.i64_in _ (by omega)
    have w2 : IntKind.i64.wrap (-(-(u : Int) + 1)) = (u : Int) - 1 := by rw [show -(-(u : Int) + 1) = (u : Int) - 1 by omega]; exact IntWalk.i64_in _ (by omega)
    have w3 : IntKind.u64.wrap ((u : Int) - 1) = (u : Int) - 1 := IntWalk.u64_in _ (by omega)
    have w4 : IntKind.u64.wrap (18446744073709551615 - ((u : Int) - 1)) = 18446744073709551616 - (u : Int) := by rw [show (18446744073709551615 : Int) - ((u : Int) - 1) = 18446744073709551616 - (u : Int) by omega]; exact IntWalk.u64_in _ (by omega)
    have E : Hid (((ubits (-(u : Int)) : Nat) : Int) = 18446744073709551616 - (u : Int)) := Lib.hid (by unfold ubits; rw [if_neg hk]; omega)
    clear h0 h1 hk
    go_enter Tryz.func37, Tryz.ntmps37
    go_wp2
    go_ret
    exact ⟨by rw [E.out]; rfl, h⟩
set_option maxHeartbeats 1000000 in
theorem cacheSet_eq (h : Has σ M w) {k : Int} (h0 : -9223372036854775808 ≤ k) (h1 : k ≤ 9223372036854775807) : Calls Tryz.prog 12 #[.int .i64 k] w fun r w' => r = .returned (.int .i64 (setOf k : Nat)) ∧ Has σ M w' := by
  have FB := Lib.hid (fun (w : World) (h : Has σ M w) => fieldBits_any h h0 h1)
  have FC := Lib.hid (fun (w : World) (h : Has σ M w) => (fieldCut_any (ubits k) 0 1 (ubits_lt h0 h1) (by omega) (by omega) w).mono fun r w' (hq : r = .returned (.int .u64 (cutN (ubits k) 0 1 : Nat)) ∧ w = w') => (⟨hq.1, hq.2 ▸ h⟩ : r = .returned (.int .u64 (cutN (ubits k) 0 1 : Nat)) ∧ Has σ M w'))
  have e : cutN (ubits k) 0 1 = setOf k := by unfold cutN setOf; simp
  rw [e] at FC
  have hs := setOf_lt k
  have wi : IntKind.i64.wrap ((setOf k : Nat) : Int) = ((setOf k : Nat) : Int) := IntWalk.i64_in _ (by omega)
  clear e h0 h1 hs
  generalize ubits k = u at *
  generalize setOf k = z at *
  go_enter Tryz.func12, Tryz.ntmps12
  go_wp2_with (first
    | (go_at_call 35; go_loud (refine (FB.out _ h).mono ?_); clear h; rintro _ w ⟨rfl, h⟩)
    | (go_at_call 34; go_loud (refine (FC.out _ h).mono ?_); clear h; rintro _ w ⟨rfl, h⟩))
  go_ret
  exact ⟨rfl, h⟩
set_option maxHeartbeats 1000000 in
theorem refSet_eq (h : Has σ M w) {k : Int} (h0 : -9223372036854775808 ≤ k) (h1 : k ≤ 9223372036854775807) : Calls Tryz.prog 15 #[.int .i64 k] w fun r w' => r = .returned (.int .i64 (setOf k : Nat)) ∧ Has σ M w' := by
  have FB := Lib.hid (fun (w : World) (h : Has σ M w) => refBits_any h h0 h1)
  have e : (ubits k : Int).tmod 2 = ((setOf k : Nat) : Int) := rfl
  have hs := setOf_lt k
  have wi : IntKind.i64.wrap ((setOf k : Nat) : Int) = ((setOf k : Nat) : Int) := IntWalk.i64_in _ (by omega)
  clear h0 h1 hs
  generalize ubits k = u at *
  generalize setOf k = z at *
  go_enter Tryz.func15, Tryz.ntmps15
  go_wp2_with (first
    | (go_at_call 37; go_loud (refine (FB.out _ h).mono ?_); clear h; rintro _ w ⟨rfl, h⟩))
  go_ret
  exact ⟨rfl, h⟩
end
end
section
open Go.RowKit
set_option linter.unusedVariables false
set_option linter.unusedSimpArgs false
set_option linter.unnecessarySimpa false
def mkHdl (at_ slot gen : Nat) : Nat := setN (setN (cutN slot 0 8) 8 32 gen) 60 4 at_
def partsOk (h : Nat) : Bool := decide (h % 256 ≠ 0) && decide (h / 1099511627776 % 1048576 = 0)
theorem mkHdl_val {a s g : Nat} (ha : a < 16) (hs : s < 256) (hg : g < 4294967296) : mkHdl a s g = 1152921504606846976 * a + 256 * g + s := by
  unfold mkHdl setN cutN
  have e1 : s / 2 ^ 0 % 2 ^ 8 = s := by simp; omega
  rw [e1]
  have e2 : s / 2 ^ (8 + 32) = 0 := Nat.div_eq_of_lt (by omega)
  have e3 : g % 2 ^ 32 = g := Nat.mod_eq_of_lt (by omega)
  have e4 : s % 2 ^ 8 = s := Nat.mod_eq_of_lt (by omega)
  rw [e2, e3, e4]
  have e5 : 2 ^ 8 * (2 ^ 32 * 0 + g) + s = 256 * g + s := by omega
  rw [e5]
  have e6 : (256 * g + s) / 2 ^ (60 + 4) = 0 := Nat.div_eq_of_lt (by omega)
  have e7 : a % 2 ^ 4 = a := Nat.mod_eq_of_lt (by omega)
  have e8 : (256 * g + s) % 2 ^ 60 = 256 * g + s := Nat.mod_eq_of_lt (by omega)
  rw [e6, e7, e8]
  omega
theorem parts_right {h : Nat} (hh : h < 18446744073709551616) : (mkHdl (cutN h 60 4) (cutN h 0 8) (cutN h 8 32) == h) = decide (h / 1099511627776 % 1048576 = 0) := by
  have a1 : cutN h 60 4 = h / 1152921504606846976 := by
    unfold cutN
    rw [Nat.mod_eq_of_lt (by omega)]
  have a2 : cutN h 0 8 = h % 256 := by unfold cutN; simp
  have a3 : cutN h 8 32 = h / 256 % 4294967296 := rfl
  rw [a1, a2, a3, mkHdl_val (by omega) (by omega) (by omega), Bool.eq_iff_iff]
  simp only [beq_iff_eq, decide_eq_true_eq]
  omega
theorem results4 {P : Program} {fn : Func} {p q r s : Tmp} (h : fn.results = #[.tmp p, .tmp q, .tmp r, .tmp s]) (tmps : Array Value) (w : World) : (results fn tmps).run P w = .ok (.tuple #[tmps.getD p undef, tmps.getD q undef, tmps.getD r undef, tmps.getD s undef]) w := by
  simp [results, h, go_sem]
section
variable {σ w : World} {M : Mm}
set_option maxHeartbeats 1000000 in
theorem handleMake_any (h : Has σ M w) (a s g : Nat) (ha : a < 9223372036854775808) (hs : s < 9223372036854775808) (hg : g < 9223372036854775808) : Calls Tryz.prog 36 #[.int .i64 (a : Nat), .int .i64 (s : Nat), .int .i64 (g : Nat)] w fun r w' => r = .returned (.int .u64 (mkHdl a s g : Nat)) ∧ Has σ M w' := by
  have k1 : cutN s 0 8 < 18446744073709551616 := cutN_lt64 (by omega)
  have k2 : setN (cutN s 0 8) 8 32 g < 18446744073709551616 := by
    have e : cutN s 0 8 < 2 ^ 8 := cutN_lt s 0 8
    have e2 : setN (cutN s 0 8) 8 32 g < 2 ^ (8 + 32) := by
      unfold setN
      have : cutN s 0 8 / 2 ^ (8 + 32) = 0 := Nat.div_eq_of_lt (by omega)
      rw [this]
      have h1 : g % 2 ^ 32 < 2 ^ 32 := Nat.mod_lt _ (by decide)
      have h2 : cutN s 0 8 % 2 ^ 8 < 2 ^ 8 := Nat.mod_lt _ (by decide)
      omega
    omega
  have C1 := Lib.hid (fun (w : World) (h : Has σ M w) => (fieldCut_any s 0 8 (by omega) (by omega) (by omega) w).mono fun r w' (hq : r = .returned (.int .u64 (cutN s 0 8 : Nat)) ∧ w = w') => (⟨hq.1, hq.2 ▸ h⟩ : r = .returned (.int .u64 (cutN s 0 8 : Nat)) ∧ Has σ M w'))
  have S1 := Lib.hid (fun (w : World) (h : Has σ M w) => (fieldSet_any (cutN s 0 8) 8 32 g k1 (by omega) (by omega) (by omega) w).mono fun r w' (hq : r = .returned (.int .u64 (setN (cutN s 0 8) 8 32 g : Nat)) ∧ w = w') => (⟨hq.1, hq.2 ▸ h⟩ : r = .returned (.int .u64 (setN (cutN s 0 8) 8 32 g : Nat)) ∧ Has σ M w'))
  have S2 := Lib.hid (fun (w : World) (h : Has σ M w) => (fieldSet_any (setN (cutN s 0 8) 8 32 g) 60 4 a k2 (by omega) (by omega) (by omega) w).mono fun r w' (hq : r = .returned (.int .u64 (setN (setN (cutN s 0 8) 8 32 g) 60 4 a : Nat)) ∧ w = w') => (⟨hq.1, hq.2 ▸ h⟩ : r = .returned (.int .u64 (setN (setN (cutN s 0 8) 8 32 g) 60 4 a : Nat)) ∧ Has σ M w'))
  have w1 : IntKind.u64.wrap ((s : Nat) : Int) = ((s : Nat) : Int) := IntWalk.u64_in _ (by omega)
  have w2 : IntKind.u64.wrap ((g : Nat) : Int) = ((g : Nat) : Int) := IntWalk.u64_in _ (by omega)
  have w3 : IntKind.u64.wrap ((a : Nat) : Int) = ((a : Nat) : Int) := IntWalk.u64_in _ (by omega)
  have E : Hid (mkHdl a s g = setN (setN (cutN s 0 8) 8 32 g) 60 4 a) := Lib.hid rfl
  clear k1 k2 ha hs hg
  generalize setN (setN (cutN s 0 8) 8 32 g) 60 4 a = y2 at *
  generalize setN (cutN s 0 8) 8 32 g = y1 at *
  generalize cutN s 0 8 = y0 at *
  go_enter Tryz.func36, Tryz.ntmps36
  go_wp2_with (first
    | (go_at_call 34; go_loud (refine (C1.out _ h).mono ?_); clear h; rintro _ w ⟨rfl, h⟩)
    | (go_at_call_of 69 (Value.int .i64 60); go_loud (refine (S2.out _ h).mono ?_); clear h; rintro _ w ⟨rfl, h⟩)
    | (go_at_call_of 69 (Value.int .i64 32); go_loud (refine (S1.out _ h).mono ?_); clear h; rintro _ w ⟨rfl, h⟩))
  go_ret
  exact ⟨by rw [E.out]; rfl, h⟩
set_option maxHeartbeats 1000000 in
theorem handleParts_eq (h : Has σ M w) (x : Nat) (hx : x < 18446744073709551616) : Calls Tryz.prog 13 #[.int .u64 (x : Nat)] w fun r w' => (∃ g : Int, r = .returned (.tuple #[.int .i64 ((x / 1152921504606846976 : Nat) : Int), .int .i64 ((x % 256 : Nat) : Int), .int .i64 g, .bool (partsOk x)])) ∧ Has σ M w' := by
  have a1 : cutN x 60 4 = x / 1152921504606846976 := by
    unfold cutN
    rw [Nat.mod_eq_of_lt (by omega)]
  have a2 : cutN x 0 8 = x % 256 := by unfold cutN; simp
  have a3 : cutN x 8 32 < 4294967296 := cutN_lt x 8 32
  have C1 := Lib.hid (fun (w : World) (h : Has σ M w) => (fieldCut_any x 60 4 hx (by omega) (by omega) w).mono fun r w' (hq : r = .returned (.int .u64 (cutN x 60 4 : Nat)) ∧ w = w') => (⟨hq.1, hq.2 ▸ h⟩ : r = .returned (.int .u64 (cutN x 60 4 : Nat)) ∧ Has σ M w'))
  have C2 := Lib.hid (fun (w : World) (h : Has σ M w) => (fieldCut_any x 0 8 hx (by omega) (by omega) w).mono fun r w' (hq : r = .returned (.int .u64 (cutN x 0 8 : Nat)) ∧ w = w') => (⟨hq.1, hq.2 ▸ h⟩ : r = .returned (.int .u64 (cutN x 0 8 : Nat)) ∧ Has σ M w'))
  have C3 := Lib.hid (fun (w : World) (h : Has σ M w) => (fieldCut_any x 8 32 hx (by omega) (by omega) w).mono fun r w' (hq : r = .returned (.int .u64 (cutN x 8 32 : Nat)) ∧ w = w') => (⟨hq.1, hq.2 ▸ h⟩ : r = .returned (.int .u64 (cutN x 8 32 : Nat)) ∧ Has σ M w'))
  have hr := parts_right hx
  rw [a1, a2] at hr
  rw [a1] at C1
  rw [a2] at C2
  have MK := Lib.hid (fun (w : World) (h : Has σ M w) => handleMake_any h (x / 1152921504606846976) (x % 256) (cutN x 8 32) (by omega) (by omega) (by omega))
  have OK : Hid (partsOk x = (decide (x % 256 ≠ 0) && decide (x / 1099511627776 % 1048576 = 0))) := Lib.hid rfl
  have w1 : IntKind.i64.wrap ((x / 1152921504606846976 : Nat) : Int) = ((x / 1152921504606846976 : Nat) : Int) := IntWalk.i64_in _ (by omega)
  have w2 : IntKind.i64.wrap ((x % 256 : Nat) : Int) = ((x % 256 : Nat) : Int) := IntWalk.i64_in _ (by omega)
  have w3 : IntKind.i64.wrap ((cutN x 8 32 : Nat) : Int) = ((cutN x 8 32 : Nat) : Int) := IntWalk.i64_in _ (by omega)
  rw [← hr] at OK
  clear a1 a2 a3 hr
  generalize x / 1152921504606846976 = la at *
  generalize x % 256 = ls at *
  generalize cutN x 8 32 = lg at *
  generalize partsOk x = ok at *
  generalize mkHdl la ls lg = mk at *
  have EQ : Hid ((((mk : Nat) : Int) == ((x : Nat) : Int)) = (mk == x)) := Lib.hid (by rw [Bool.eq_iff_iff]; simp only [beq_iff_eq]; omega)
  have OUT : Hid (ls = 0 → ok = false) := Lib.hid fun e => by rw [OK.out, e]; simp
  have OUT2 : Hid (ls ≠ 0 → ok = (mk == x)) := Lib.hid fun e => by rw [OK.out]; simp [e]
  clear OK hx
  by_cases hs : ls = 0
  · have o := Lib.hid (OUT.out hs)
    subst hs
    go_enter Tryz.func13, Tryz.ntmps13
    go_wp2_with (first
      | (go_at_call_of 34 (Value.int .i64 60); go_loud (refine (C1.out _ h).mono ?_); clear h; rintro _ w ⟨rfl, h⟩)
      | (go_at_call_of 34 (Value.int .i64 32); go_loud (refine (C3.out _ h).mono ?_); clear h; rintro _ w ⟨rfl, h⟩)
      | (go_at_call 34; go_loud (refine (C2.out _ h).mono ?_); clear h; rintro _ w ⟨rfl, h⟩))
    exact bodyPost_ret (results4 rfl _ _) rfl ⟨⟨lg, by rw [o.out]; rfl⟩, h⟩
  · have o := Lib.hid (OUT2.out hs)
    have n1 : ((ls : Int) == 0) = false := beq_eq_false_iff_ne.2 (by omega)
    have n2 : (ls == 0) = false := beq_eq_false_iff_ne.2 hs
    obtain ⟨be, hbe⟩ : ∃ be, (((mk : Nat) : Int) == ((x : Nat) : Int)) = be := ⟨_, rfl⟩
    have HBE := Lib.hid hbe
    clear hbe
    have n3 : decide (ls = 0) = false := decide_eq_false hs
    have n4 : ((ls : Int) != 0) = true := by rw [bne, n1]; rfl
    have n5 : ¬ ls = 0 := hs
    go_enter Tryz.func13, Tryz.ntmps13
    go_wp2_with (first
      | (go_at_call_of 34 (Value.int .i64 60); go_loud (refine (C1.out _ h).mono ?_); clear h; rintro _ w ⟨rfl, h⟩)
      | (go_at_call_of 34 (Value.int .i64 32); go_loud (refine (C3.out _ h).mono ?_); clear h; rintro _ w ⟨rfl, h⟩)
      | (go_at_call 34; go_loud (refine (C2.out _ h).mono ?_); clear h; rintro _ w ⟨rfl, h⟩)
      | (go_at_call 36; go_loud (refine (MK.out _ h).mono ?_); clear h; rintro _ w ⟨rfl, h⟩))
    exact bodyPost_ret (results4 rfl _ _) rfl ⟨⟨lg, by rw [o.out, ← EQ.out]; rfl⟩, h⟩
end
end
section
open Go.RowKit
set_option linter.unusedVariables false
set_option linter.unusedSimpArgs false
set_option linter.unnecessarySimpa false
def CellRes (P : Program) (w : World) (tmps : Array Value) (p : Tmp) (ty : TypeId) (cs : Array Value) : Prop := ∀ v, tmps.getD p undef = v → ∃ g, v = .pointer (some ⟨g, 0, none⟩) ∧ (loadVar ty ⟨g, 0, none⟩).run P w = .ok (.agg cs) w
theorem CellRes.of {P : Program} {σ w : World} {M : Mm} (h : Has σ M w) {tmps : Array Value} {p : Tmp} {ty : TypeId} {g : Nat} {t : TypeId} {cs : Array Value} {fr : Nat × Nat} (hg : M g = some (.cells cs t fr)) {d : TypeDesc} (hp : tmps.getD p undef = .pointer (some ⟨g, 0, none⟩))
    (hu : P.underlying ty = some d) (hd : (match d with | .struct _ | .array _ _ => true | _ => false) = true) (hi : (P.info? ty).map (·.size) = some cs.size) : CellRes P w tmps p ty cs :=
  fun v hv => ⟨g, hv.symm.trans hp, run_loadVar_row w g t ty cs fr d (h.at_ g _ hg) hu hd hi⟩
theorem CellRes.get {P : Program} {w : World} {tmps : Array Value} {p : Tmp} {ty : TypeId} {cs : Array Value} (h : CellRes P w tmps p ty cs) : ∃ g, tmps[p]?.getD undef = .pointer (some ⟨g, 0, none⟩) ∧ (loadVar ty ⟨g, 0, none⟩).run P w = .ok (.agg cs) w := by
  obtain ⟨g, h1, h2⟩ := h _ rfl
  exact ⟨g, by simpa using h1, h2⟩
theorem results_c1 {P : Program} {w : World} {fn : Func} {tmps : Array Value} {p : Tmp} {ty : TypeId} {cs : Array Value} (h : fn.results = #[.cell p ty]) (hp : CellRes P w tmps p ty cs) : (results fn tmps).run P w = .ok (.agg cs) w := by
  obtain ⟨g, h1, h2⟩ := hp.get
  simp [results, h, h1, asAddr, h2]
theorem results_ct {P : Program} {w : World} {fn : Func} {tmps : Array Value} {p u : Tmp} {ty : TypeId} {cs : Array Value} (h : fn.results = #[.cell p ty, .tmp u]) (hp : CellRes P w tmps p ty cs) : (results fn tmps).run P w = .ok (.tuple #[.agg cs, tmps.getD u undef]) w := by
  obtain ⟨g, h1, h2⟩ := hp.get
  simp [results, h, h1, asAddr, h2]
theorem results_cc {P : Program} {w : World} {fn : Func} {tmps : Array Value} {p q : Tmp} {ty ty' : TypeId} {cs cs' : Array Value} (h : fn.results = #[.cell p ty, .cell q ty']) (hp : CellRes P w tmps p ty cs) (hq : CellRes P w tmps q ty' cs') : (results fn tmps).run P w = .ok (.tuple #[.agg cs, .agg cs']) w := by
  obtain ⟨g, h1, h2⟩ := hp.get
  obtain ⟨g', h3, h4⟩ := hq.get
  simp [results, h, h1, h3, asAddr, h2, h4]
def hdR (a b c : Int) : Array Value := #[.int .i64 a, .int .i64 b, .int .i64 c]
theorem zhdR : (Tryz.prog.info? 56).bind (·.zero) = some (.agg (hdR 0 0 0)) := by kernel_rfl
structure RowR where
  key : Int
  a : Int
  b : Int
def encRo (y : RowR) : List Value := [.int .i64 y.key, .int .u64 y.a, .int .u64 y.b]
theorem encRo_len (y : RowR) : (encRo y).length = 3 := rfl
/-- Keys rise, as far as the k-th row. -/
def RiseTo (L : List RowR) (k : Nat) : Prop := ∀ (i : Nat) (x y : RowR), i + 1 < k → L[i]? = some x → L[i + 1]? = some y → x.key < y.key
set_option maxHeartbeats 1000000 in
set_option maxRecDepth 20000 in
theorem refParts_eq {σ w : World} {M : Mm} (h : Has σ M w) (x : Nat) (hx : x < 18446744073709551616) : Calls Tryz.prog 16 #[.int .u64 (x : Nat)] w fun r w' => (∃ s g : Int, r = .returned (.tuple #[.agg (hdR ((x / 1152921504606846976 : Nat) : Int) s g), .bool (partsOk x)])) ∧ Has σ M w' := by
  have q2 : (x : Int).tmod 256 = ((x % 256 : Nat) : Int) := rfl
  have q4 : ((x / 256 : Nat) : Int).tmod 4294967296 = ((x / 256 % 4294967296 : Nat) : Int) := rfl
  have q6 : ((x / 1099511627776 : Nat) : Int).tmod 1048576 = ((x / 1099511627776 % 1048576 : Nat) : Int) := rfl
  have q7 : (x : Int) / 1152921504606846976 = ((x / 1152921504606846976 : Nat) : Int) := by omega
  have q9 : (x : Int) / 256 = ((x / 256 : Nat) : Int) := by omega
  have q10 : (x : Int) / 1099511627776 = ((x / 1099511627776 : Nat) : Int) := by omega
  have v1 : IntKind.u64.wrap ((x / 1152921504606846976 : Nat) : Int) = ((x / 1152921504606846976 : Nat) : Int) := IntWalk.u64_in _ (by omega)
  have v2 : IntKind.u64.wrap ((x / 256 : Nat) : Int) = ((x / 256 : Nat) : Int) := IntWalk.u64_in _ (by omega)
  have v3 : IntKind.u64.wrap ((x / 1099511627776 : Nat) : Int) = ((x / 1099511627776 : Nat) : Int) := IntWalk.u64_in _ (by omega)
  have w1 : IntKind.i64.wrap ((x / 1152921504606846976 : Nat) : Int) = ((x / 1152921504606846976 : Nat) : Int) := IntWalk.i64_in _ (by omega)
  have w2 : IntKind.i64.wrap ((x % 256 : Nat) : Int) = ((x % 256 : Nat) : Int) := IntWalk.i64_in _ (by omega)
  have w3 : IntKind.i64.wrap ((x / 256 % 4294967296 : Nat) : Int) = ((x / 256 % 4294967296 : Nat) : Int) := IntWalk.i64_in _ (by omega)
  have zh := zhdR
  have OK : Hid (partsOk x = (decide (x % 256 ≠ 0) && decide (x / 1099511627776 % 1048576 = 0))) := Lib.hid rfl
  have HZ : Hid ((hdR 0 0 0).size = 3) := Lib.hid rfl
  have c1 : ∀ a b c, (hdR a b c)[1]? = some (.int .i64 b) := fun _ _ _ => rfl
  have cx : ∀ a b c, (hdR a b c).extract 0 (0 + 3) = hdR a b c := fun _ _ _ => rfl
  have cz : ∀ a b c, (hdR a b c).size = 3 := fun _ _ _ => rfl
  have HO : Hid (∀ a b c, (hdR a b c).toList.all (·.oneCell') = true) := Lib.hid fun _ _ _ => rfl
  generalize x / 1152921504606846976 = la at *
  generalize x % 256 = ls at *
  generalize x / 256 % 4294967296 = lg at *
  generalize x / 1099511627776 % 1048576 = lm at *
  generalize x / 256 = lx at *
  generalize x / 1099511627776 = ly at *
  generalize partsOk x = ok at *
  have c1' := c1 (la : Int) (ls : Int) (lg : Int)
  have cx' := cx (la : Int) (ls : Int) (lg : Int)
  have cz' := cz (la : Int) (ls : Int) (lg : Int)
  have HO' := Lib.hid (HO.out (la : Int) (ls : Int) (lg : Int))
  clear c1 cx cz HO hx
  obtain ⟨b1, hb1⟩ : ∃ b1, decide ((0 : Int) < (ls : Int)) = b1 := ⟨_, rfl⟩
  have hb1n : decide (0 < ls) = b1 := by rw [← hb1]; exact decide_eq_decide.2 (by omega)
  obtain ⟨b2, hb2⟩ : ∃ b2, ((lm : Int) == 0) = b2 := ⟨_, rfl⟩
  have OK2 : Hid (ok = (b1 && b2)) := Lib.hid (by
    rw [OK.out, ← hb1, ← hb2]
    congr 1
    · exact decide_eq_decide.2 (by omega)
    · rw [Bool.eq_iff_iff]; simp only [decide_eq_true_eq, beq_iff_eq]; omega)
  clear OK
  go_enter Tryz.func16, Tryz.ntmps16
  go_upto_region 1 with (first
    | ((with_reducible show wpList _ _ _ ({ dst := some 2, op := Op.alloc 56, type := _, pos := _, after := _, guard := _ } :: _) _ _); go_loud (refine wpList_alloc_has h rfl 56 rfl _ zh ?_); clear h; intro b2x w h hn2; try simp only [Act.put, List.setIfInBounds_toArray, List.set_cons_zero, List.set_cons_succ]))
  go_upto_region 2 with (first
    | ((with_reducible show wpList _ _ _ ({ dst := _, op := Op.build 56 _, type := _, pos := _, after := _, guard := _ } :: _) _ _); (refine wpList_build_has rfl 56 _ rfl (hdR la ls lg) (by kernel_rfl) ?_; try simp only [Act.put, List.setIfInBounds_toArray, List.set_cons_zero, List.set_cons_succ]))
    | ((with_reducible show wpList _ _ _ ({ dst := some 4, op := Op.alloc 56, type := _, pos := _, after := _, guard := _ } :: _) _ _); go_loud (refine wpList_alloc_has h rfl 56 rfl _ zh ?_); clear h; intro b4 w h hn4; try simp only [Act.put, List.setIfInBounds_toArray, List.set_cons_zero, List.set_cons_succ])
    | ((with_reducible show wpList _ _ _ ({ dst := _, op := Op.store 56 (.tmp 4) _, type := _, pos := _, after := _, guard := _ } :: _) _ _); refine wpList_storeAll_has (cells := hdR la ls lg) h rfl 56 _ _ rfl rfl rfl (Mm.upd_same _ _ _) rfl HZ.out cz' (by kernel_rfl) HO'.out ?_; clear h; intro w h))
  rw [Mm.upd_upd] at h
  replace h : Has σ ((M.upd b2x (.cells (hdR 0 0 0) 56)).upd b4 (.cells (hdR la ls lg) 56)) w := h
  have hb4 := Mm.upd_same (M.upd b2x (.cells (hdR 0 0 0) 56)) b4 (.cells (hdR la ls lg) 56)
  have hb2m : ((M.upd b2x (.cells (hdR 0 0 0) 56)).upd b4 (.cells (hdR la ls lg) 56)) b2x = some (.cells (hdR 0 0 0) 56) := Mm.upd_of hn4 (Mm.upd_same _ _ _)
  have hle : M.le ((M.upd b2x (.cells (hdR 0 0 0) 56)).upd b4 (.cells (hdR la ls lg) 56)) := Mm.le_trans (Mm.le_upd' hn2 _) (Mm.le_upd' hn4 _)
  generalize (M.upd b2x (.cells (hdR 0 0 0) 56)).upd b4 (.cells (hdR la ls lg) 56) = M2 at *
  generalize hhd : hdR la ls lg = hd at *
  have HHD := Lib.hid hhd
  clear hhd
  cases b1
  · go_wp2_with (first
      | (with_reducible show wpList _ _ _ ({ dst := _, op := Op.load 3 _, type := _, pos := _, after := _, guard := _ } :: _) _ _; go_loud (refine wpList_load1_has h rfl 3 _ rfl rfl hb4 c1' Tryz.underlying3 rfl ?_))
      | ((with_reducible show wpList _ _ _ ({ dst := _, op := Op.load 56 _, type := _, pos := _, after := _, guard := _ } :: _) _ _); go_loud (refine wpList_agg_has h rfl 56 _ rfl rfl hb4 cx' cz' Tryz.underlying56 rfl (by kernel_rfl) ?_); try simp only [Act.put, List.setIfInBounds_toArray, List.set_cons_zero, List.set_cons_succ])
      | ((with_reducible show wpList _ _ _ ({ dst := _, op := Op.store 56 _ _, type := _, pos := _, after := _, guard := _ } :: _) _ _); refine wpList_storeAll_has (cells := hd) h rfl 56 _ _ rfl rfl rfl hb2m rfl HZ.out cz' (by kernel_rfl) HO'.out ?_; clear h; intro w h))
    exact bodyPost_ret (results_ct rfl (CellRes.of h (Mm.upd_same _ _ _) rfl Tryz.underlying56 rfl (by rw [cz']; kernel_rfl))) rfl ⟨⟨ls, lg, by rw [OK2.out, HHD.out]; rfl⟩, h.le (Mm.le_upd hle hn2 _)⟩
  · go_wp2_with (first
      | (with_reducible show wpList _ _ _ ({ dst := _, op := Op.load 3 _, type := _, pos := _, after := _, guard := _ } :: _) _ _; go_loud (refine wpList_load1_has h rfl 3 _ rfl rfl hb4 c1' Tryz.underlying3 rfl ?_))
      | ((with_reducible show wpList _ _ _ ({ dst := _, op := Op.load 56 _, type := _, pos := _, after := _, guard := _ } :: _) _ _); go_loud (refine wpList_agg_has h rfl 56 _ rfl rfl hb4 cx' cz' Tryz.underlying56 rfl (by kernel_rfl) ?_); try simp only [Act.put, List.setIfInBounds_toArray, List.set_cons_zero, List.set_cons_succ])
      | ((with_reducible show wpList _ _ _ ({ dst := _, op := Op.store 56 _ _, type := _, pos := _, after := _, guard := _ } :: _) _ _); refine wpList_storeAll_has (cells := hd) h rfl 56 _ _ rfl rfl rfl hb2m rfl HZ.out cz' (by kernel_rfl) HO'.out ?_; clear h; intro w h))
    exact bodyPost_ret (results_ct rfl (CellRes.of h (Mm.upd_same _ _ _) rfl Tryz.underlying56 rfl (by rw [cz']; kernel_rfl))) rfl ⟨⟨ls, lg, by rw [OK2.out, HHD.out]; rfl⟩, h.le (Mm.le_upd hle hn2 _)⟩
/-- A function tells whether something is so. -/
def Tells (σ : World) (M : Mm) (p : Prop) (r : Ending) (w' : World) : Prop := ∃ b, r = .returned (.bool b) ∧ (b = true ↔ p) ∧ Has σ M w'
set_option maxHeartbeats 1000000 in
set_option maxRecDepth 20000 in
theorem rises_eq {σ w : World} {M : Mm} (h : Has σ M w) {va : Value} {n : Nat} {L : List RowR} (hl : L.length = n) (ha : Rd M 3 va n (L.flatMap encRo)) (hn : n ≤ 100000) : Calls Tryz.prog 14 #[va] w fun r w' => Tells σ M (RiseTo L n) r w' := by
  have HA := Lib.hid ha
  obtain ⟨A, c, rfl⟩ := ha.form
  have HL := Lib.hid hl
  clear ha hl
  go_enter Tryz.func14, Tryz.ntmps14
  go_wp2_with (fail)
  go_loopw [3] (fun u wr => ∃ k : Nat, 1 ≤ k ∧ k ≤ n + 1 ∧ u = .int .i64 (k : Nat) ∧ RiseTo L (min k n) ∧ Has σ M wr) (fun u _ => n + 1 - (intOf u).toNat)
  case atStart => exact ⟨1, Nat.le_refl _, by omega, rfl, fun i x y hi => absurd hi (by omega), h⟩
  case round =>
    clear h w
    obtain ⟨w, rfl⟩ : ∃ x : World, x = wr := ⟨_, rfl⟩
    obtain ⟨k, hk1, hk, rfl, hR, h⟩ := hrel
    have HR := Lib.hid hR
    clear hR
    by_cases hlt : k < n
    · have hlt' : (k : Int) < (n : Int) := by omega
      obtain ⟨j, rfl⟩ : ∃ j, k = j + 1 := ⟨k - 1, by omega⟩
      have w1 : IntKind.i64.wrap (((j + 1 : Nat) : Int) - 1) = ((j : Nat) : Int) := by rw [show ((j + 1 : Nat) : Int) - 1 = j by omega]; exact IntWalk.i64_in _ (by omega)
      have w2 : IntKind.i64.wrap (((j + 1 : Nat) : Int) + 1) = ((j + 1 + 1 : Nat) : Int) := by rw [show ((j + 1 : Nat) : Int) + 1 = ((j + 1 + 1 : Nat) : Int) by omega]; exact IntWalk.i64_in _ (by omega)
      have hj' : (j : Int) < (n : Int) := by omega
      have hjn : j < n := by omega
      obtain ⟨x, hx⟩ : ∃ x, L[j]? = some x := ⟨_, List.getElem?_eq_getElem (by have := HL.out; omega)⟩
      obtain ⟨y, hy⟩ : ∃ y, L[j + 1]? = some y := ⟨_, List.getElem?_eq_getElem (by have := HL.out; omega)⟩
      obtain ⟨b1, o1, c1, cs1, t1, f1, e1, hM1, hx1⟩ := HA.out.elem encRo_len (by omega : j < n) hx
      obtain ⟨b2, o2, c2, cs2, t2, f2, e2, hM2, hx2⟩ := HA.out.elem encRo_len hlt hy
      cases e1
      cases e2
      have g1 := hx1 0 _ rfl
      have g2 := hx2 0 _ rfl
      rw [Nat.add_zero] at g1 g2
      have HX := Lib.hid hx
      have HY := Lib.hid hy
      obtain ⟨kx, hkx⟩ : ∃ kx, x.key = kx := ⟨_, rfl⟩
      obtain ⟨ky, hky⟩ : ∃ ky, y.key = ky := ⟨_, rfl⟩
      rw [hkx] at g1
      rw [hky] at g2
      have HKX := Lib.hid hkx
      have HKY := Lib.hid hky
      clear hx hy hx1 hx2 hkx hky
      generalize hjj : j + 1 = k at *
      have HJ := Lib.hid hjj
      clear hjj
      go_upto_region 4 with (fail)
      refine wp_region_class (Has σ M) (by kernel_rfl) (by kernel_rfl) h.drew ?_
      clear h
      repeat (first
        | go_big_quiet_skip
        | (go_big_quiet_want; first
          | (refine quiet_load_has 2 _ rfl rfl hM1 g1 Tryz.underlying2 rfl ?_; simp only [Act.put, List.setIfInBounds_toArray, List.set_cons_zero, List.set_cons_succ]; go_big_quiet_on)
          | (refine quiet_load_has 2 _ rfl rfl hM2 g2 Tryz.underlying2 rfl ?_; simp only [Act.put, List.setIfInBounds_toArray, List.set_cons_zero, List.set_cons_succ]; go_big_quiet_on)
          | (go_big_quiet_op; first | go_big_quiet_on | go_big_quiet_call (first | with_reducible exact fun _ => rfl))))
      refine wpQuiet_nil ?_
      try clear w
      intro w h
      by_cases hle : ky ≤ kx
      · have d1 : decide (ky ≤ kx) = true := decide_eq_true hle
        have NO : Hid (¬ RiseTo L n) := Lib.hid fun g => by
          have h1 := g j x y (by have := HJ.out; omega) HX.out (by rw [HJ.out]; exact HY.out)
          rw [HKX.out, HKY.out] at h1
          omega
        go_wp2
        go_ret
        exact ⟨false, rfl, ⟨fun e => (by cases e), fun g => absurd g NO.out⟩, h⟩
      · have d1 : decide (ky ≤ kx) = false := decide_eq_false hle
        have HNL := Lib.hid hle
        have HLT := Lib.hid hlt
        clear hlt
        go_wp2
        go_roundw
        case rel => exact ⟨k + 1, by omega, by have := HLT.out; omega, by first | rfl | go_num, fun i a b hi ha hb => by
          have hkn := HLT.out
          by_cases e : i + 1 = k
          · have ei : i = j := by have := HJ.out; omega
            subst ei
            rw [HX.out] at ha
            rw [HJ.out, HY.out] at hb
            cases ha
            cases hb
            rw [HKX.out, HKY.out]
            have := HNL.out
            omega
          · exact HR.out i a b (by omega) ha hb, h⟩
        case measure => have := HLT.out; simp [intOf]; omega
    · have ng : ¬ (k : Int) < (n : Int) := by omega
      have FIN : Hid (RiseTo L n) := Lib.hid (by have := HR.out; rw [Nat.min_eq_right (by omega)] at this; exact this)
      clear hlt
      go_wp2
      go_ret
      exact ⟨true, rfl, ⟨fun _ => FIN.out, fun _ => rfl⟩, h⟩
def sgR (se ca qu ra : Value) (fr li re he wo : Int) (ti cl : Bool) : Array Value := #[se, ca, qu, ra, .int .i64 fr, .int .i64 li, .int .i64 re, .int .i64 he, .int .i64 wo, .bool ti, .bool cl]
def rsR (se ca qu ra : Value) (fr li re : Int) (ti cl : Bool) : Array Value := #[se, ca, qu, ra, .int .i64 fr, .int .i64 li, .int .i64 re, .bool ti, .bool cl]
theorem needed_eq {σ w : World} {M : Mm} (h : Has σ M w) {As Ac Aq Ar : Option Addr} {ns nc nq nr cs cc cq cr : Nat} (hs : ns ≤ 100000) (hc : nc ≤ 100000) (hq : nq ≤ 100000) (hr : nr ≤ 100000) (row : Array Value) (e0 : row[0]? = some (.slice As ns cs)) (e1 : row[1]? = some (.slice Ac nc cc)) (e2 : row[2]? = some (.slice Aq nq cq)) (e3 : row[3]? = some (.slice Ar nr cr)) : Calls Tryz.prog 5 #[.agg row] w fun r w' => r = .returned (.int .i64 ((ns + nc + nq + nr + 1 : Nat) : Int)) ∧ Has σ M w' := by
  have w1 : IntKind.i64.wrap ((ns : Int) + (nc : Int)) = (ns : Int) + (nc : Int) := IntWalk.i64_in _ (by omega)
  have w2 : IntKind.i64.wrap ((ns : Int) + (nc : Int) + (nq : Int)) = (ns : Int) + (nc : Int) + (nq : Int) := IntWalk.i64_in _ (by omega)
  have w3 : IntKind.i64.wrap ((ns : Int) + (nc : Int) + (nq : Int) + 1) = (ns : Int) + (nc : Int) + (nq : Int) + 1 := IntWalk.i64_in _ (by omega)
  have w4 : IntKind.i64.wrap ((ns : Int) + (nc : Int) + (nq : Int) + 1 + (nr : Int)) = (ns : Int) + (nc : Int) + (nq : Int) + 1 + (nr : Int) := IntWalk.i64_in _ (by omega)
  have E : Hid (((ns + nc + nq + nr + 1 : Nat) : Int) = (ns : Int) + (nc : Int) + (nq : Int) + 1 + (nr : Int)) := Lib.hid (by omega)
  clear hs hc hq hr
  go_enter Tryz.func5, Tryz.ntmps5
  go_upto_region 1 with (first
    | ((with_reducible show wpList _ _ _ ({ dst := _, op := Op.box 26 _, type := _, pos := _, after := _, guard := _ } :: _) _ _); go_loud (refine wpList_box_has h rfl 26 _ rfl ?_); clear h; intro b1 w h hn1; try simp only [Act.put, List.setIfInBounds_toArray, List.set_cons_zero, List.set_cons_succ]))
  replace hn1 : M b1 = none := hn1
  replace h : Has σ (M.upd b1 (.cells row 26)) w := h
  have hle : M.le (M.upd b1 (.cells row 26)) := Mm.le_upd' hn1 _
  have hb1 : (M.upd b1 (.cells row 26)) b1 = some (.cells row 26) := (Mm.le_refl _) _ _ (Mm.upd_same _ _ _)
  replace hn1 : M b1 = none := Mm.none_of (Mm.le_refl _) hn1
  generalize (M.upd b1 (.cells row 26)) = M2 at h hle hb1
  go_wp2_with (first
    | (with_reducible show wpList _ _ _ ({ dst := _, op := Op.load 22 _, type := _, pos := _, after := _, guard := _ } :: _) _ _; go_loud (refine wpList_load1_has h rfl 22 _ rfl rfl hb1 e0 Tryz.underlying22 rfl ?_))
    | (with_reducible show wpList _ _ _ ({ dst := _, op := Op.load 22 _, type := _, pos := _, after := _, guard := _ } :: _) _ _; go_loud (refine wpList_load1_has h rfl 22 _ rfl rfl hb1 e1 Tryz.underlying22 rfl ?_))
    | (with_reducible show wpList _ _ _ ({ dst := _, op := Op.load 23 _, type := _, pos := _, after := _, guard := _ } :: _) _ _; go_loud (refine wpList_load1_has h rfl 23 _ rfl rfl hb1 e2 Tryz.underlying23 rfl ?_))
    | (with_reducible show wpList _ _ _ ({ dst := _, op := Op.load 24 _, type := _, pos := _, after := _, guard := _ } :: _) _ _; go_loud (refine wpList_load1_has h rfl 24 _ rfl rfl hb1 e3 Tryz.underlying24 rfl ?_)))
  go_ret
  exact ⟨by rw [E.out]; rfl, h.le hle⟩
theorem refNeeded_eq {σ w : World} {M : Mm} (h : Has σ M w) {As Ac Aq Ar : Option Addr} {ns nc nq nr cs cc cq cr : Nat} (hs : ns ≤ 100000) (hc : nc ≤ 100000) (hq : nq ≤ 100000) (hr : nr ≤ 100000) (row : Array Value) (e0 : row[0]? = some (.slice As ns cs)) (e1 : row[1]? = some (.slice Ac nc cc)) (e2 : row[2]? = some (.slice Aq nq cq)) (e3 : row[3]? = some (.slice Ar nr cr)) : Calls Tryz.prog 6 #[.agg row] w fun r w' => r = .returned (.int .i64 ((ns + nc + nq + nr + 1 : Nat) : Int)) ∧ Has σ M w' := by
  have w1 : IntKind.i64.wrap ((ns : Int) + (nc : Int)) = (ns : Int) + (nc : Int) := IntWalk.i64_in _ (by omega)
  have w2 : IntKind.i64.wrap ((ns : Int) + (nc : Int) + (nq : Int)) = (ns : Int) + (nc : Int) + (nq : Int) := IntWalk.i64_in _ (by omega)
  have w3 : IntKind.i64.wrap ((ns : Int) + (nc : Int) + (nq : Int) + (nr : Int)) = (ns : Int) + (nc : Int) + (nq : Int) + (nr : Int) := IntWalk.i64_in _ (by omega)
  have w4 : IntKind.i64.wrap ((ns : Int) + (nc : Int) + (nq : Int) + (nr : Int) + 1) = (ns : Int) + (nc : Int) + (nq : Int) + (nr : Int) + 1 := IntWalk.i64_in _ (by omega)
  have E : Hid (((ns + nc + nq + nr + 1 : Nat) : Int) = (ns : Int) + (nc : Int) + (nq : Int) + (nr : Int) + 1) := Lib.hid (by omega)
  clear hs hc hq hr
  go_enter Tryz.func6, Tryz.ntmps6
  go_upto_region 1 with (first
    | ((with_reducible show wpList _ _ _ ({ dst := _, op := Op.box 34 _, type := _, pos := _, after := _, guard := _ } :: _) _ _); go_loud (refine wpList_box_has h rfl 34 _ rfl ?_); clear h; intro b1 w h hn1; try simp only [Act.put, List.setIfInBounds_toArray, List.set_cons_zero, List.set_cons_succ]))
  replace hn1 : M b1 = none := hn1
  replace h : Has σ (M.upd b1 (.cells row 34)) w := h
  have hle : M.le (M.upd b1 (.cells row 34)) := Mm.le_upd' hn1 _
  have hb1 : (M.upd b1 (.cells row 34)) b1 = some (.cells row 34) := (Mm.le_refl _) _ _ (Mm.upd_same _ _ _)
  replace hn1 : M b1 = none := Mm.none_of (Mm.le_refl _) hn1
  generalize (M.upd b1 (.cells row 34)) = M2 at h hle hb1
  go_wp2_with (first
    | (with_reducible show wpList _ _ _ ({ dst := _, op := Op.load 22 _, type := _, pos := _, after := _, guard := _ } :: _) _ _; go_loud (refine wpList_load1_has h rfl 22 _ rfl rfl hb1 e0 Tryz.underlying22 rfl ?_))
    | (with_reducible show wpList _ _ _ ({ dst := _, op := Op.load 22 _, type := _, pos := _, after := _, guard := _ } :: _) _ _; go_loud (refine wpList_load1_has h rfl 22 _ rfl rfl hb1 e1 Tryz.underlying22 rfl ?_))
    | (with_reducible show wpList _ _ _ ({ dst := _, op := Op.load 23 _, type := _, pos := _, after := _, guard := _ } :: _) _ _; go_loud (refine wpList_load1_has h rfl 23 _ rfl rfl hb1 e2 Tryz.underlying23 rfl ?_))
    | (with_reducible show wpList _ _ _ ({ dst := _, op := Op.load 24 _, type := _, pos := _, after := _, guard := _ } :: _) _ _; go_loud (refine wpList_load1_has h rfl 24 _ rfl rfl hb1 e3 Tryz.underlying24 rfl ?_)))
  go_ret
  exact ⟨by rw [E.out]; rfl, h.le hle⟩
end
end Go.Proofs.YtlpkimpdeeiaaaaGreat
