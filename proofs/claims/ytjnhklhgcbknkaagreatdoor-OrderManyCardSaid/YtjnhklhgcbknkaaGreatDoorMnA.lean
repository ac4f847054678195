/- Layer 13 by its words: a call, an answer, a state; which calls a lone thread may do. -/
import Derived.Test.YtjnhklhgcbknkaaGreatDoorCom
import Derived.Test.YtjnhklhgcbknkaaGreatDoorConfLevel
namespace Go.Proofs.YtjnhklhgcbknkaaGreatDoor
open Go.RowKit
set_option linter.unusedVariables false
set_option linter.unusedSimpArgs false
set_option linter.unnecessarySimpa false
/-- A result that lies in a block. -/
def CellRes (P : Program) (w : World) (tmps : Array Value) (p : Tmp) (ty : TypeId) (cs : Array Value) : Prop := ∀ v, tmps.getD p undef = v → ∃ g, v = .pointer (some ⟨g, 0, none⟩) ∧ (loadVar ty ⟨g, 0, none⟩).run P w = .ok (.agg cs) w
theorem CellRes.of {P : Program} {σ w : World} {M : Mm} (h : Has σ M w) {tmps : Array Value} {p : Tmp} {ty : TypeId} {g : Nat} {t : TypeId} {cs : Array Value} {fr : Nat × Nat} (hg : M g = some (.cells cs t fr)) {d : TypeDesc} (hp : tmps.getD p undef = .pointer (some ⟨g, 0, none⟩))
    (hu : P.underlying ty = some d) (hd : (match d with | .struct _ | .array _ _ => true | _ => false) = true) (hi : (P.info? ty).map (·.size) = some cs.size) : CellRes P w tmps p ty cs :=
  fun v hv => ⟨g, hv.symm.trans hp, run_loadVar_row w g t ty cs fr d (h.at_ g _ hg) hu hd hi⟩
theorem CellRes.get {P : Program} {w : World} {tmps : Array Value} {p : Tmp} {ty : TypeId} {cs : Array Value} (h : CellRes P w tmps p ty cs) : ∃ g, tmps[p]?.getD undef = .pointer (some ⟨g, 0, none⟩) ∧ (loadVar ty ⟨g, 0, none⟩).run P w = .ok (.agg cs) w := by
  obtain ⟨g, h1, h2⟩ := h _ rfl
  exact ⟨g, by simpa using h1, h2⟩
theorem results_c1 {P : Program} {w : World} {fn : Func} {tmps : Array Value} {p : Tmp} {ty : TypeId} {cs : Array Value} (h : fn.results = #[.cell p ty]) (hp : CellRes P w tmps p ty cs) : (results fn tmps).run P w = .ok (.agg cs) w := by
  obtain ⟨g, h1, h2⟩ := hp.get
  simp [results, h, h1, asAddr, h2]
theorem results_ct {P : Program} {w : World} {fn : Func} {tmps : Array Value} {p u : Tmp} {ty : TypeId} {cs : Array Value} (h : fn.results = #[.cell p ty, .tmp u]) (hp : CellRes P w tmps p ty cs) : (results fn tmps).run P w = .ok (.tuple #[.agg cs, tmps.getD u undef]) w := by
  obtain ⟨g, h1, h2⟩ := hp.get
  simp [results, h, h1, asAddr, h2]
theorem results_cc {P : Program} {w : World} {fn : Func} {tmps : Array Value} {p q : Tmp} {ty ty' : TypeId} {cs cs' : Array Value} (h : fn.results = #[.cell p ty, .cell q ty']) (hp : CellRes P w tmps p ty cs) (hq : CellRes P w tmps q ty' cs') : (results fn tmps).run P w = .ok (.tuple #[.agg cs, .agg cs']) w := by
  obtain ⟨g, h1, h2⟩ := hp.get
  obtain ⟨g', h3, h4⟩ := hq.get
  simp [results, h, h1, h3, asAddr, h2, h4]
theorem results_cct {P : Program} {w : World} {fn : Func} {tmps : Array Value} {p q u : Tmp} {ty ty' : TypeId} {cs cs' : Array Value} (h : fn.results = #[.cell p ty, .cell q ty', .tmp u]) (hp : CellRes P w tmps p ty cs) (hq : CellRes P w tmps q ty' cs') : (results fn tmps).run P w = .ok (.tuple #[.agg cs, .agg cs', tmps.getD u undef]) w := by
  obtain ⟨g, h1, h2⟩ := hp.get
  obtain ⟨g', h3, h4⟩ := hq.get
  simp [results, h, h1, h3, asAddr, h2, h4]
/-- A call: op, level, key, pair, handle, reg. -/
def callR (op lv ky pa pb ha rg : Int) : Array Value := #[.int .i64 op, .int .i64 lv, .int .i64 ky, .int .u64 pa, .int .u64 pb, .int .u64 ha, .int .i64 rg]
/-- An answer: error, pair, handle, n, key. -/
def ansR (er pa pb ha n ky : Int) : Array Value := #[.int .i64 er, .int .u64 pa, .int .u64 pb, .int .u64 ha, .int .i64 n, .int .i64 ky]
/-- One thread, at level 0. -/
def oneC : Nat → Int := fun i => if i = 0 then 1 else if i = 1 then 1 else if i = 10 then 2 else if i = 11 then 1 else if i = 12 then 1 else 0
def oneR : Array Value := #[.int .i64 1, .int .i64 1, .int .i64 0, .int .i64 0, .int .i64 0, .int .i64 0, .int .i64 0, .int .i64 0, .int .i64 0, .int .i64 0, .int .i64 2, .int .i64 1, .int .i64 1, .int .i64 0]
theorem oneR_eq : ints .i64 14 oneC = oneR := rfl
theorem one_may : confMayB oneC = true := by decide
theorem one_level : levelOf oneC 0 = 0 := by decide
theorem oneR_size : oneR.size = 14 := rfl
section
variable {σ w : World} {M : Mm}
theorem level_one (h : Has σ M w) : Calls Tryz.prog 70 #[.agg oneR, .int .i64 0] w fun r w' => r = .returned (.int .i64 0) ∧ Has σ M w' :=
  (level_any oneC 0 w).mono fun _ _ ⟨h1, h2⟩ => ⟨h1, h.below h2⟩
set_option maxHeartbeats 1000000 in
theorem reads_one (h : Has σ M w) : Calls Tryz.prog 107 #[.agg oneR, .int .i64 0, .int .i64 0] w fun r w' => r = .returned (.bool true) ∧ Has σ M w' :=
  (reads_any oneC 0 0 w).mono fun _ _ ⟨h1, h2⟩ => ⟨h1, h.below h2⟩
set_option maxHeartbeats 1000000 in
theorem writes_one (h : Has σ M w) : Calls Tryz.prog 105 #[.agg oneR, .int .i64 0, .int .i64 0] w fun r w' => r = .returned (.bool true) ∧ Has σ M w' := by
  have zz := oneR_size
  have zx : oneR.extract 0 (0 + 14) = oneR := rfl
  have z2 : oneR[2]? = some (.int .i64 0) := rfl
  have RD := Lib.hid (fun (M : Mm) (w : World) (h : Has σ M w) => reads_one h)
  generalize oneR = rr at *
  go_enter Tryz.func105, Tryz.ntmps105
  go_upto_region 1 with (fail)
  obtain ⟨M1, hbx, hle, hb1, hn1⟩ := h.box (.cells rr 38)
  generalize w.alloc _ = wx at hbx ⊢
  generalize w.heap.size = b1 at hb1 hn1 ⊢
  clear h
  try clear w
  have h := hbx
  clear hbx
  obtain ⟨w, rfl⟩ : ∃ x : World, x = wx := ⟨_, rfl⟩
  go_wp2_with (first
    | ((with_reducible show wpList _ _ _ ({ dst := _, op := Op.load 38 _, type := _, pos := _, after := _, guard := _ } :: _) _ _); refine wpList_agg_has h rfl 38 _ rfl rfl hb1 zx zz Tryz.underlying38 rfl (by kernel_rfl) ?_; try simp only [Act.put, List.setIfInBounds_toArray, List.set_cons_zero, List.set_cons_succ])
    | (go_at_call 107; refine (RD.out _ _ h).mono ?_; clear h; rintro _ w ⟨rfl, h⟩)
    | (with_reducible show wpList _ _ _ ({ dst := _, op := Op.load 3 _, type := _, pos := _, after := _, guard := _ } :: _) _ _; refine wpList_load1_has h rfl 3 _ rfl rfl hb1 z2 Tryz.underlying3 rfl ?_))
  go_ret
  exact ⟨rfl, h.le hle⟩
set_option maxHeartbeats 400000 in
theorem callIn_any (n lo hi : Int) (w : World) : Calls Tryz.prog 124 #[.int .i64 n, .int .i64 lo, .int .i64 hi] w fun e w' => e = .returned (.bool (decide (lo ≤ n ∧ n ≤ hi))) ∧ w = w' := by
  by_cases h1 : lo ≤ n
  · by_cases h2 : n ≤ hi
    · go_enter Tryz.func124, Tryz.ntmps124
      go_wp2
      go_ret
      exact ⟨by rw [decide_eq_true (⟨h1, h2⟩ : lo ≤ n ∧ n ≤ hi)]; rfl, rfl⟩
    · have hd : decide (n ≤ hi) = false := decide_eq_false h2
      have hs : Hid (decide (lo ≤ n ∧ n ≤ hi) = false) := decide_eq_false (fun h => h2 h.2)
      clear h2
      go_enter Tryz.func124, Tryz.ntmps124
      go_wp2
      go_ret
      exact ⟨by rw [hs.out]; rfl, rfl⟩
  · have hd : decide (lo ≤ n) = false := decide_eq_false h1
    have hs : Hid (decide (lo ≤ n ∧ n ≤ hi) = false) := decide_eq_false (fun h => h1 h.1)
    clear h1
    go_enter Tryz.func124, Tryz.ntmps124
    go_wp2
    go_ret
    exact ⟨by rw [hs.out]; rfl, rfl⟩
/-- A call that may be, at level 0. -/
def OkCall (op rg : Int) : Prop := (0 ≤ op ∧ op ≤ 12) ∧ (0 ≤ rg ∧ rg ≤ 40)
set_option maxHeartbeats 1000000 in
theorem callMay_ok (h : Has σ M w) (op ky pa pb ha rg : Int) (ho : OkCall op rg) : Calls Tryz.prog 91 #[.agg (callR op 0 ky pa pb ha rg)] w fun r w' => r = .returned (.bool true) ∧ Has σ M w' := by
  have H1 : Hid (decide (0 ≤ op ∧ op ≤ 12) = true) := decide_eq_true ho.1
  have H3 : Hid (decide (0 ≤ rg ∧ rg ≤ 40) = true) := decide_eq_true ho.2
  have H2 : Hid (decide ((0 : Int) ≤ 0 ∧ (0 : Int) ≤ 3) = true) := rfl
  unfold callR
  clear ho
  go_enter Tryz.func91, Tryz.ntmps91
  go_wp2_with (go_at_call 124; refine (callIn_any _ _ _ _).mono ?_; rintro e w' ⟨rfl, rfl⟩; first | rw [H1.out] | rw [H3.out] | rw [H2.out])
  go_ret
  exact ⟨rfl, h.quietAlloc _⟩
theorem callR_size (op lv ky pa pb ha rg : Int) : (callR op lv ky pa pb ha rg).size = 7 := rfl
set_option maxHeartbeats 1000000 in
theorem policy_one (h : Has σ M w) (op ky pa pb ha rg : Int) (ho : OkCall op rg) : Calls Tryz.prog 82 #[.agg oneR, .int .i64 0, .agg (callR op 0 ky pa pb ha rg)] w fun r w' => r = .returned .nilIface ∧ Has σ M w' := by
  have zz := oneR_size
  have zx : oneR.extract 0 (0 + 14) = oneR := rfl
  have WR := Lib.hid (fun (M : Mm) (w : World) (h : Has σ M w) => writes_one h)
  have LV := Lib.hid (fun (M : Mm) (w : World) (h : Has σ M w) => level_one h)
  have MY := Lib.hid (fun (M : Mm) (w : World) (h : Has σ M w) => callMay_ok h op ky pa pb ha rg ho)
  have cz := callR_size op 0 ky pa pb ha rg
  have cx : (callR op 0 ky pa pb ha rg).extract 0 (0 + 7) = callR op 0 ky pa pb ha rg := rfl
  have c1 : (callR op 0 ky pa pb ha rg)[1]? = some (.int .i64 0) := rfl
  clear ho
  generalize oneR = rr at *
  generalize callR op 0 ky pa pb ha rg = cc at *
  go_enter Tryz.func82, Tryz.ntmps82
  go_upto_region 1 with (fail)
  obtain ⟨M1, hbx, hle, hb1, hb2, hn1, hn2⟩ := h.box2 (.cells rr 38) (.cells cc 27)
  generalize (w.alloc _).alloc _ = wx at hbx ⊢
  have hne_b1_b2 : w.heap.size ≠ w.heap.size + 1 := Nat.ne_of_lt (Nat.lt_succ_self _)
  generalize w.heap.size + 1 = b2 at hb2 hn2 hne_b1_b2 ⊢
  generalize w.heap.size = b1 at hb1 hn1 hne_b1_b2 ⊢
  clear h
  try clear w
  have h := hbx
  clear hbx
  obtain ⟨w, rfl⟩ : ∃ x : World, x = wx := ⟨_, rfl⟩
  go_wp2_with (first
    | ((with_reducible show wpList _ _ _ ({ dst := _, op := Op.load 38 _, type := _, pos := _, after := _, guard := _ } :: _) _ _); refine wpList_agg_has h rfl 38 _ rfl rfl hb1 zx zz Tryz.underlying38 rfl (by kernel_rfl) ?_; try simp only [Act.put, List.setIfInBounds_toArray, List.set_cons_zero, List.set_cons_succ])
    | ((with_reducible show wpList _ _ _ ({ dst := _, op := Op.load 27 _, type := _, pos := _, after := _, guard := _ } :: _) _ _); refine wpList_agg_has h rfl 27 _ rfl rfl hb2 cx cz Tryz.underlying27 rfl (by kernel_rfl) ?_; try simp only [Act.put, List.setIfInBounds_toArray, List.set_cons_zero, List.set_cons_succ])
    | (with_reducible show wpList _ _ _ ({ dst := _, op := Op.load 3 _, type := _, pos := _, after := _, guard := _ } :: _) _ _; refine wpList_load1_has h rfl 3 _ rfl rfl hb2 c1 Tryz.underlying3 rfl ?_)
    | (go_at_call 91; refine (MY.out _ _ h).mono ?_; clear h; rintro _ w ⟨rfl, h⟩)
    | (go_at_call 70; refine (LV.out _ _ h).mono ?_; clear h; rintro _ w ⟨rfl, h⟩)
    | (go_at_call 105; refine (WR.out _ _ h).mono ?_; clear h; rintro _ w ⟨rfl, h⟩))
  go_ret
  exact ⟨rfl, h.le hle⟩
theorem code_nil (h : Has σ M w) : Calls Tryz.prog 81 #[.nilIface] w fun r w' => r = .returned (.int .i64 0) ∧ Has σ M w' := by
  go_enter Tryz.func81, Tryz.ntmps81
  go_wp2
  go_ret
  exact ⟨rfl, h.quietAlloc _⟩
end
end Go.Proofs.YtjnhklhgcbknkaaGreatDoor
