/- Law 22, StockCrowd: what is seen and told behind a step. -/
import Derived.Test.YtefjjagejgeedaaCroC
import Derived.Test.YtefjjagejgeedaaCroB
namespace Go.Proofs.Ytefjjagejgeedaa
section
open Go.RowKit
set_option linter.unusedVariables false
set_option linter.unusedSimpArgs false
set_option linter.unnecessarySimpa false
/-- What is known of a crowd, with so many steps left. -/
def CrJ (c : Nat → Int) (tp : List Nat) (S gens NL T : Nat) (b : Nat) (g : StG) (s : MachS) : Prop := ∃ n m L ow had ev emp, AbsG c tp n s g ∧ CrI S gens NL T (levT c) m g L ow had ev emp ∧ n + b < 90000 ∧ m + b < 90000
def potG (c : Nat → Int) (t : Nat) (g : StG) : Nat := match g.thr t with | none => 1 | some F => potF (g.lv (levT c t)).top F
theorem frames_of {c : Nat → Int} {tp : List Nat} {n t : Nat} {s : MachS} {g : StG} (hA : AbsG c tp n s g) (ht : (t : Int) < c 1) : (s.thr t).frames = [] ↔ g.thr t = none := by
  rw [hA.thr.fr t ht]
  cases g.thr t <;> simp
theorem crowd_j {σ : World} {K : Mm} {p L B S gens T : Nat} {c : Nat → Int} {tp : List Nat} (hc : ConfMay c) (hn : Nums c L B S) (hg : c 12 = (gens : Nat)) (hT : c 1 = (T : Nat)) (htp : tp.length = T) : OpenJ σ K p tp (.func (.func 6) #[] #[]) 12 (CrJ c tp S gens L T) (potG c) := by
  have hs0 := hn.s0
  refine ⟨fun b g s ⟨n, m, L, ow, had, ev, emp, hA, _⟩ => hA.ttp, fun b b' g s ⟨n, m, L, ow, had, ev, emp, hA, hI, h1, h2⟩ hb => ⟨n, m, L, ow, had, ev, emp, hA, hI, by omega, by omega⟩, fun t b g s M lab w ht h hM hB hP hfr => ?_, fun t b g s _ => ?_⟩
  · obtain ⟨n, m, Lf, ow, had, ev, emp, hA, hI, h1, h2⟩ := hP
    have htT : t < T := by omega
    obtain ⟨elv, ll⟩ := levT_of hc hn hT htT
    have ht1 : (t : Int) < c 1 := by omega
    obtain ⟨q, hq⟩ : ∃ q, tp[t]? = some q := ⟨_, List.getElem?_eq_getElem ht⟩
    cases hF : g.thr t with
    | none => exact absurd ((frames_of hA ht1).2 hF) hfr
    | some F =>
      have ok := hI.inv.ok (c := c) (by omega) hn.slo hs0.2 htT ll hF
      obtain ⟨L2, ow2, had2, ev2, hN⟩ := crowd_next hI hs0.2 (by omega) htT ll hF
      refine (step_next h hM hB hA (by omega) ht1 hq elv (by rw [hn.lev]; omega) hF ok hg).mono fun r w' hr => ?_
      obtain ⟨M', lab', s', hr, hw', hM', hB', hA'⟩ := hr
      refine ⟨M', lab', _, _, s', hr, hw', hM', hB', ⟨n + 1, m + 1, L2, ow2, had2, ev2, _, hA', hN.inv, by omega, by omega⟩, ?_, fun u huT hu hfu => ?_⟩
      · cases hF2 : (g.next gens t (levT c t) F).thr t with
        | none => exact .inl ((frames_of hA' ht1).2 hF2)
        | some F2 =>
          refine .inr ?_
          unfold potG
          rw [hF, hF2]
          exact pot_next (hI.inv.thr t htT F hF).fn F2 hF2
      · have hu1 : (u : Int) < c 1 := by omega
        exact (frames_of hA' hu1).2 (by rw [hN.thr u hu]; exact (frames_of hA hu1).1 hfu)
  · unfold potG
    split
    · omega
    · exact ⟨pot_pos _ _, by have := pot_le (g.lv (levT c t)).top; exact Nat.le_trans (this _) (by omega)⟩
end
section
open Go.RowKit
set_option linter.unusedVariables false
set_option linter.unusedSimpArgs false
set_option linter.unnecessarySimpa false
def encP (x : Nat × Nat) : List Value := [.int .i64 (x.1 : Nat), .int .i64 (x.2 : Nat)]
theorem encP_len (x : Nat × Nat) : (encP x).length = 2 := rfl
/-- What the law knows besides: rows of its own. -/
structure LawC (K : Mm) (labK : Nat → Nat) (T NL : Nat) (hv bv vv : Value) (fh fv : Nat → Value) (had : Nat → List Nat) (ev : Nat → List (Nat × Nat)) (emp : Nat → Bool) : Prop where
  hrow : Row K labK 2 47 1 hv T ((List.range T).map fh)
  each : ∀ k, k < T → Row K labK (10 + k) 3 1 (fh k) (had k).length (natv (had k))
  brow : Row K labK 3 4 1 bv T ((List.range T).map fun k => Value.bool (emp k))
  vrow : Row K labK 4 76 1 vv NL ((List.range NL).map fv)
  veach : ∀ k, k < NL → Row K labK (30 + k) 75 2 (fv k) (ev k).length ((ev k).flatMap encP)
section
variable {K K' : Mm} {labK labK' : Nat → Nat} {T NL : Nat} {hv bv vv v : Value} {fh fv : Nat → Value} {had : Nat → List Nat} {ev : Nat → List (Nat × Nat)} {emp : Nat → Bool} {h2 : List Nat} {e2 : List (Nat × Nat)} {k : Nat}
theorem LawC.keep (h : LawC K labK T NL hv bv vv fh fv had ev emp) (hK : Kp Non K labK K' labK') : LawC K' labK' T NL hv bv vv fh fv had ev emp :=
  ⟨h.hrow.keep hK (fun h => h), fun k hk => (h.each k hk).keep hK (fun h => h), h.brow.keep hK (fun h => h), h.vrow.keep hK (fun h => h), fun k hk => (h.veach k hk).keep hK (fun h => h)⟩
/-- What a thread had is another row, in two steps: the row itself, then its place. -/
theorem LawC.setH {K2 : Mm} {labK2 : Nat → Nat} (h : LawC K labK T NL hv bv vv fh fv had ev emp) (hT : T ≤ 8) (hk : k < T) (hK : Kp (fun j => j = 10 + k) K labK K' labK') (hr : Row K' labK' (10 + k) 3 1 v h2.length (natv h2)) (hK2 : Kp (fun j => j = 2) K' labK' K2 labK2) {hv2 : Value} (hr2 : Row K2 labK2 2 47 1 hv2 T (((List.range T).map fh).set k v)) : LawC K2 labK2 T NL hv2 bv vv (put1 fh k v) fv (put1 had k h2) ev emp := by
  refine ⟨by rw [← map_set]; exact hr2, fun i hi => ?_, (h.brow.keep hK (by omega)).keep hK2 (by omega), (h.vrow.keep hK (by omega)).keep hK2 (by omega), fun i hi => ((h.veach i hi).keep hK (by omega)).keep hK2 (by omega)⟩
  by_cases e : i = k
  · subst e; rw [put1_same, put1_same]; exact hr.keep hK2 (by omega)
  · rw [put1_ne e, put1_ne e]; exact ((h.each i hi).keep hK (by omega)).keep hK2 (by omega)
/-- Whether a thread's level was seen empty. -/
theorem LawC.setB (h : LawC K labK T NL hv bv vv fh fv had ev emp) (hT : T ≤ 8) (hK : Kp (fun j => j = 3) K labK K' labK') {bv2 : Value} {b : Bool} (hr : Row K' labK' 3 4 1 bv2 T (((List.range T).map fun k => Value.bool (emp k)).set k (.bool b))) : LawC K' labK' T NL hv bv2 vv fh fv had ev (put1 emp k b) := by
  refine ⟨h.hrow.keep hK (by omega), fun i hi => (h.each i hi).keep hK (by omega), ?_, h.vrow.keep hK (by omega), fun i hi => (h.veach i hi).keep hK (by omega)⟩
  have e : (fun j => Value.bool (put1 emp k b j)) = put1 (fun j => Value.bool (emp j)) k (.bool b) := by
    funext j
    unfold put1
    split <;> rfl
  rw [e, ← map_set]
  exact hr
/-- What was ever told of a level is another row. -/
theorem LawC.setV {K2 : Mm} {labK2 : Nat → Nat} (h : LawC K labK T NL hv bv vv fh fv had ev emp) (hT : T ≤ 8) (hk : k < NL) (hK : Kp (fun j => j = 30 + k) K labK K' labK') (hr : Row K' labK' (30 + k) 75 2 v e2.length (e2.flatMap encP)) (hK2 : Kp (fun j => j = 4) K' labK' K2 labK2) {vv2 : Value} (hr2 : Row K2 labK2 4 76 1 vv2 NL (((List.range NL).map fv).set k v)) : LawC K2 labK2 T NL hv bv vv2 fh (put1 fv k v) had (put1 ev k e2) emp := by
  refine ⟨(h.hrow.keep hK (by omega)).keep hK2 (by omega), fun i hi => ((h.each i hi).keep hK (by omega)).keep hK2 (by omega), (h.brow.keep hK (by omega)).keep hK2 (by omega), by rw [← map_set]; exact hr2, fun i hi => ?_⟩
  by_cases e : i = k
  · subst e; rw [put1_same, put1_same]; exact hr.keep hK2 (by omega)
  · rw [put1_ne e, put1_ne e]; exact ((h.veach i hi).keep hK (by omega)).keep hK2 (by omega)
end
theorem info_bool : (Try.prog.info? 4).map (fun i => (i.zero, i.size, i.bytes)) = some (some (.bool false), 1, 1) := by kernel_rfl
theorem info_helds : (Try.prog.info? 76).map (fun i => (i.zero, i.size, i.bytes)) = some (some (.slice none 0 0), 1, 24) := by kernel_rfl
theorem info_held : (Try.prog.info? 75).map (fun i => (i.zero, i.size, i.bytes)) = some (some (.agg #[.int .i64 0, .int .i64 0]), 2, 16) := by kernel_rfl
theorem made_bools (n : Nat) : madeCells (Value.bool false).cells (n * 1) = ((List.range n).map fun _ => Value.bool false).toArray := by
  apply Array.ext_getElem?
  intro i
  unfold madeCells
  by_cases hi : i < n
  · simp [Value.cells, hi, Nat.mod_one]
  · simp [Value.cells, hi]
theorem mk_bools (N : Nat) (h : N ≤ 1000) (W : World) : (Instr.makeSlice 65 (.int .i64 N) (.int .i64 N)).run Try.prog W = .ok (.slice (some ⟨W.heap.size, 0, none⟩) N N) (W.alloc (.cells ((List.range N).map fun _ => Value.bool false).toArray 4)) := by
  obtain ⟨i, hi, he⟩ := Option.map_eq_some_iff.1 info_bool
  simp only [Prod.mk.injEq] at he
  obtain ⟨h1, h2, h3⟩ := he
  rw [run_makeSlice W 65 4 i (.bool false) Try.underlying65 hi h1 .i64 .i64 N N (by omega) (by omega) (by rw [h2, Int.toNat_natCast]; omega) (by rw [h3]; omega) (by omega), Int.toNat_natCast, h2, made_bools]
theorem mk_helds (N : Nat) (h : N ≤ 1000) (W : World) : (Instr.makeSlice 66 (.int .i64 N) (.int .i64 N)).run Try.prog W = .ok (.slice (some ⟨W.heap.size, 0, none⟩) N N) (W.alloc (.cells (nils N).toArray 76)) := by
  obtain ⟨i, hi, he⟩ := Option.map_eq_some_iff.1 info_helds
  simp only [Prod.mk.injEq] at he
  obtain ⟨h1, h2, h3⟩ := he
  rw [run_makeSlice W 66 76 i (.slice none 0 0) Try.underlying66 hi h1 .i64 .i64 N N (by omega) (by omega) (by rw [h2, Int.toNat_natCast]; omega) (by rw [h3]; omega) (by omega), Int.toNat_natCast, h2, made_ints]
end
section
open Go.RowKit
set_option linter.unusedVariables false
set_option linter.unusedSimpArgs false
set_option linter.unnecessarySimpa false
set_option maxHeartbeats 2000000 in
set_option maxRecDepth 20000 in
theorem chain_eq {σ w : World} {M : Mm} {lab : Nat → Nat} {p l n m gens : Nat} {s : MachS} {c : Nat → Int} {tp : List Nat} {g : StG} {o : Nat → Nat × Nat} {Q : List Nat} {L B S : Nat} (h : Has σ M w) (hM : Mach M lab p s) (hA : AbsG c tp n s g) (hn : Nums c L B S) (hl : l < L) (hV : LvI S gens m (g.lv l) o Q) :
    Calls Try.prog 25 #[.pointer (some ⟨p, 0, none⟩), .int .i64 (l : Nat)] w fun r w' => ∃ A k, r = .returned (.slice A Q.length k) ∧ ∃ M', Has σ M' w' ∧ M.le M' := by
  obtain rfl := hA.cc
  have hb0 := hn.b0
  have hs0 := hn.s0
  have hl0 := hn.l0
  have hN1 : s.mem.N = L * (18 + B + 6 * S) := by
    have h1 := hM.memN
    rw [hn.lev, hn.sz, ← Int.natCast_mul] at h1
    exact Int.ofNat_inj.1 h1
  have hN2 : L * (18 + B + 6 * S) ≤ 4 * (18 + 40 + 6 * 60) := Nat.mul_le_mul (by omega) (by omega)
  have PL := Lib.hid (fun (w : World) (h : Has σ M w) => mPlan_eq h hM)
  have CF := Lib.hid (fun (w : World) (h : Has σ M w) => conf_has h s.c hM.plan)
  have ME := Lib.hid (fun (w : World) (h : Has σ M w) => mMem_eq h hM)
  have WO := Lib.hid (fun (w : World) (h : Has σ M w) => memWords_eq h hM.mem (by omega))
  have CHQ : Hid (∀ (M' : Mm) (w : World) (bw : Nat), Has σ M' w → M' bw = some (.cells (ints .u64 s.mem.N s.mem.f) 40) → Calls Try.prog 21 #[.agg (ints .i64 14 s.c), .slice (some ⟨bw, 0, none⟩) s.mem.N s.mem.N, .int .i64 (l : Nat)] w fun r w' => ∃ v, r = .returned (.tuple #[v, .bool true]) ∧ Acc σ M' w' 3 1 v Q.length (natv Q)) := Lib.hid fun M' w bw h hb => refChain_eq h s.c hn hb hN1 l hl (hA.words.top_n hn hl) (fun i a b => hA.words.lk_n hn hl a b) hV.lk (by rw [← slOf_eq]; exact hV.chain) (fun x hx => ((hV.mem x).1 hx).2.1) (by have := free_busy hV.nodup hV.mem; omega)
  clear hA hn hV hM hN1 hN2
  unfold confV at CF
  have eR : s.mem.row = .cells (ints .u64 s.mem.N s.mem.f) 40 := rfl
  rw [eR] at WO
  clear eR
  generalize ints .i64 14 s.c = row at *
  generalize ints .u64 s.mem.N s.mem.f = wrow at *
  generalize s.mem.N = N at *
  generalize Q.length = qn at *
  go_enter Try.func25, Try.ntmps25
  go_wp2_with (first
    | (go_at_call 41; refine (PL.out _ h).mono ?_; clear h; rintro _ w ⟨rfl, h⟩)
    | (go_at_call 42; refine (CF.out _ h).mono ?_; clear h; rintro _ w ⟨rfl, h⟩)
    | (go_at_call 10; refine (ME.out _ h).mono ?_; clear h; rintro _ w ⟨rfl, h⟩)
    | (go_at_call 11; refine (WO.out _ h).mono ?_; clear h; rintro _ w ⟨bw, M3, rfl, h, hle3, hnw, hbw⟩)
    | ((go_at_call 21; refine (CHQ.out M3 _ bw h hbw).mono ?_; clear h; rintro _ w ⟨v, rfl, M5, h, hle5, hown⟩)))
  obtain ⟨A, k, rfl⟩ := hown.form
  go_ret
  exact ⟨A, k, rfl, M5, h, Mm.le_trans hle3 hle5⟩
end
section
open Go.RowKit
set_option linter.unusedVariables false
set_option linter.unusedSimpArgs false
set_option linter.unnecessarySimpa false
set_option maxHeartbeats 2000000 in
set_option maxRecDepth 20000 in
theorem stCrowd_no {σ w : World} {M : Mm} (h : Has σ M w) (c : Nat → Int) (A : Option Addr) (n cap : Nat) (hm : confMayB c = false) :
    Calls Try.prog 5 #[confV c, .slice A n cap] w fun r w' => r = .returned (.bool true) ∧ Has σ M w' := by
  have NW := Lib.hid (fun (M' : Mm) (w : World) (h : Has σ M' w) => mNew_no h c hm)
  have RM := Lib.hid (fun (M' : Mm) (w : World) (h : Has σ M' w) => refMay_has h c)
  have LI := Lib.hid (fun (M' : Mm) (w : World) (h : Has σ M' w) => lives_eq h)
  have hx : (ints .i64 14 c).extract 0 (0 + 14) = ints .i64 14 c := rfl
  have hz : (ints .i64 14 c).size = 14 := rfl
  unfold errV at NW
  rw [hm] at RM
  unfold confV at NW RM ⊢
  generalize ints .i64 14 c = row at NW RM hx hz ⊢
  clear hm
  go_enter Try.func5, Try.ntmps5
  go_upto_region 1 with (fail)
  obtain ⟨M1, hbx, hle, hbf, hnf⟩ := h.box (.cells row 24)
  generalize w.alloc _ = wx at hbx ⊢
  generalize w.heap.size = bf at hbf hnf ⊢
  clear h
  try clear w
  have h := hbx
  clear hbx
  obtain ⟨w, rfl⟩ : ∃ x : World, x = wx := ⟨_, rfl⟩
  go_wp2_with (first
    | ((with_reducible show wpList _ _ _ ({ dst := _, op := Op.load 24 _, type := _, pos := _, after := _, guard := _ } :: _) _ _); refine wpList_agg_has h rfl 24 _ rfl rfl hbf hx hz Try.underlying24 rfl (by kernel_rfl) ?_; try simp only [Act.put, List.setIfInBounds_toArray, List.set_cons_zero, List.set_cons_succ])
    | ((go_at_call 7; refine (NW.out _ _ h).mono ?_; clear h; rintro _ w ⟨b, M2, rfl, h, hle2, hn⟩; have hbf := hle2 _ _ hbf))
    | (go_at_call 8; refine (RM.out _ _ h).mono ?_; clear h; rintro _ w ⟨rfl, h⟩)
    | (go_at_call 9; refine (LI.out _ _ h).mono ?_; clear h; rintro _ w ⟨rfl, h⟩))
  go_ret
  exact ⟨rfl, h.le (Mm.le_trans hle hle2)⟩
set_option maxHeartbeats 2000000 in
set_option maxRecDepth 20000 in
theorem stCrowd_many {σ w : World} {M : Mm} (h : Has σ M w) (c : Nat → Int) (hc : ConfMay c) {L B S : Nat} (hn : Nums c L B S) (A : Option Addr) (n cap : Nat) (hm : confMayB c = true) (h60 : 600 < n) :
    Calls Try.prog 5 #[confV c, .slice A n cap] w fun r w' => r = .returned (.bool true) ∧ Has σ M w' := by
  have NW := Lib.hid (fun (M' : Mm) (w : World) (h : Has σ M' w) => mNew_yes h c hc hn)
  have RM := Lib.hid (fun (M' : Mm) (w : World) (h : Has σ M' w) => refMay_has h c)
  have LI := Lib.hid (fun (M' : Mm) (w : World) (h : Has σ M' w) => lives_eq h)
  have hx : (ints .i64 14 c).extract 0 (0 + 14) = ints .i64 14 c := rfl
  have hz : (ints .i64 14 c).size = 14 := rfl
  have g60 : decide ((600 : Int) < (n : Int)) = true := decide_eq_true (by omega)
  have g60' : (600 : Int) < (n : Int) := by omega
  rw [hm] at RM
  unfold confV at NW RM ⊢
  generalize ints .i64 14 c = row at NW RM hx hz ⊢
  clear hm hc hn h60
  go_enter Try.func5, Try.ntmps5
  go_upto_region 1 with (fail)
  obtain ⟨M1, hbx, hle, hbf, hnf⟩ := h.box (.cells row 24)
  generalize w.alloc _ = wx at hbx ⊢
  generalize w.heap.size = bf at hbf hnf ⊢
  clear h
  try clear w
  have h := hbx
  clear hbx
  obtain ⟨w, rfl⟩ : ∃ x : World, x = wx := ⟨_, rfl⟩
  go_wp2_with (first
    | ((with_reducible show wpList _ _ _ ({ dst := _, op := Op.load 24 _, type := _, pos := _, after := _, guard := _ } :: _) _ _); refine wpList_agg_has h rfl 24 _ rfl rfl hbf hx hz Try.underlying24 rfl (by kernel_rfl) ?_; try simp only [Act.put, List.setIfInBounds_toArray, List.set_cons_zero, List.set_cons_succ])
    | ((go_at_call 7; refine (NW.out _ _ h).mono ?_; clear h; rintro _ w ⟨p, M2, lab2, s, rfl, h, hB2, hM2, hN⟩; have hle2 := hB2.le; clear hB2 hM2 hN; have hbf := hle2 _ _ hbf))
    | (go_at_call 8; refine (RM.out _ _ h).mono ?_; clear h; rintro _ w ⟨rfl, h⟩)
    | (go_at_call 9; refine (LI.out _ _ h).mono ?_; clear h; rintro _ w ⟨rfl, h⟩))
  go_ret
  exact ⟨rfl, h.le (Mm.le_trans hle hle2)⟩
theorem cw_step {σ w : World} {K M : Mm} {lab : Nat → Nat} {p t q n m L B S gens T : Nat} {c : Nat → Int} {tp : List Nat} {s : MachS} {g : StG} {Lf : Nat → List Nat} {ow : Nat → Nat → Nat × Nat} {had : Nat → List Nat} {ev : Nat → List (Nat × Nat)} {emp : Nat → Bool} {F : StF} (h : Has σ M w) (hM : Mach M lab p s) (hB : Base K M lab) (hc : ConfMay c) (hn : Nums c L B S) (hg : c 12 = (gens : Nat)) (hT : c 1 = (T : Nat)) (ha : n ≤ 1000) (hm : m ≤ 2000) (ht : t < T) (hq : tp[t]? = some q)
    (hA : AbsG c tp n s g) (hI : CrI S gens L T (levT c) m g Lf ow had ev emp) (hF : g.thr t = some F) :
    Calls Try.prog 26 #[.pointer (some ⟨p, 0, none⟩), .int .i64 (t : Nat), .func (.func 6) #[] #[]] w fun r w' => ∃ M' lab' s' g' Lf2 ow2 had2 ev2, r = .returned (.bool (g'.thr t).isSome) ∧ Has σ M' w' ∧ Mach M' lab' p s' ∧ Base K M' lab' ∧ AbsG c tp (n + 1) s' g' ∧ CrN S gens L T (levT c) m t F g g' Lf had ev emp Lf2 ow2 had2 ev2 := by
  obtain ⟨elv, ll⟩ := levT_of hc hn hT ht
  have hs0 := hn.s0
  have ok := hI.inv.ok (c := c) (by omega) hn.slo hs0.2 ht ll hF
  obtain ⟨L2, ow2, had2, ev2, hN⟩ := crowd_next hI hs0.2 (by omega) ht ll hF
  refine (step_next h hM hB hA (by omega) (by omega) hq elv (by rw [hn.lev]; omega) hF ok hg).mono fun r w' hr => ?_
  obtain ⟨M', lab', s', hr, hw', hM', hB', hA'⟩ := hr
  exact ⟨M', lab', s', _, L2, ow2, had2, ev2, hr, hw', hM', hB', hA', hN⟩
/-- A thread within a routine: its top frame. -/
theorem cw_top {σ : World} {M : Mm} {lab : Nat → Nat} {p t q n : Nat} {c : Nat → Int} {tp : List Nat} {s : MachS} {g : StG} {F : StF} (hM : Mach M lab p s) (hA : AbsG c tp n s g) (ht : (t : Int) < c 1) (hq : tp[t]? = some q) (hF : g.thr t = some F) :
    ∃ b, (∀ w, Has σ M w → Calls Try.prog 24 #[.pointer (some ⟨q, 0, none⟩)] w fun r w' => r = .returned (.pointer (some ⟨b, 0, none⟩)) ∧ Has σ M w') ∧ ∃ cs e, M b = some (.cells cs e (0, 0)) ∧ cs[0]? = some (.int .i64 (F.fn : Nat)) := by
  obtain ⟨fv, hv, fbs, hTh⟩ := hM.each t q (by rw [hA.ttp]; exact hq)
  have hfr : (s.thr t).frames = [F.enc] := by rw [hA.thr.fr t ht, hF]
  have hl := hTh.flen
  rw [hfr] at hl
  match fbs, hl with
  | [b], _ =>
    refine ⟨b, fun w h => thrTop_eq (fbs := []) h hTh (by simp), _, _, (hTh.frame 0 b F.enc rfl (by rw [hfr]; rfl)).1, rfl⟩
/-- A thread's depth. -/
theorem cw_deep {σ : World} {M : Mm} {lab : Nat → Nat} {p t q n : Nat} {c : Nat → Int} {tp : List Nat} {s : MachS} {g : StG} (hM : Mach M lab p s) (hA : AbsG c tp n s g) (ht : (t : Int) < c 1) (hq : tp[t]? = some q) :
    ∀ w, Has σ M w → Calls Try.prog 15 #[.pointer (some ⟨q, 0, none⟩)] w fun r w' => r = .returned (.int .i64 (if (g.thr t).isSome then 1 else 0 : Nat)) ∧ Has σ M w' := fun w h => by
  obtain ⟨fv, hv, fbs, hTh⟩ := hM.each t q (by rw [hA.ttp]; exact hq)
  have hl := hTh.flen
  have := thrDeep_eq h hTh
  rw [hl, hA.thr.fr t ht] at this
  cases hF : g.thr t <;> rw [hF] at this <;> exact this
/-- A thread begins a routine. -/
theorem cw_call {σ w : World} {K M : Mm} {lab : Nat → Nat} {p t q n fn u : Nat} {c : Nat → Int} {tp : List Nat} {s : MachS} {g : StG} {us : List Int} {rv : Value} (h : Has σ M w) (hM : Mach M lab p s) (hB : Base K M lab) (hA : AbsG c tp n s g) (ht : (t : Int) < c 1) (hq : tp[t]? = some q) (hF : g.thr t = none) (hr : Rd M 1 rv us.length (u64s us)) (hu : us = [] ∧ u = 0 ∨ us = [(u : Int)]) :
    Calls Try.prog 13 #[.pointer (some ⟨q, 0, none⟩), .int .i64 (fn : Nat), rv] w fun r w' => r = .returned (.tuple #[]) ∧ ∃ M' lab' s', Has σ M' w' ∧ Mach M' lab' p s' ∧ Base K M' lab' ∧ AbsG c tp n s' (g.go t ⟨fn, 0, u, 0, 0⟩) := by
  have hq2 : s.tp[t]? = some q := by rw [hA.ttp]; exact hq
  obtain ⟨fv, hv, fbs, hTh⟩ := hM.each t q hq2
  have hl := hTh.flen
  rw [hA.thr.fr t ht, hF] at hl
  refine (thrCall_eq h hTh fn (rv := rv) (us := us) hr (by rcases hu with ⟨rfl, _⟩ | rfl <;> simp) (by rw [hl]; decide)).mono fun r w' hq => ?_
  obtain ⟨e, M', lab', hh, hK, hI⟩ := hq
  obtain ⟨hM', hB'⟩ := hM.thrTo hB hq2 hK hI
  exact ⟨e, M', lab', _, hh, hM', hB', hA.begun ht hF hu⟩
end
section
open Go.RowKit
set_option linter.unusedVariables false
set_option linter.unusedSimpArgs false
set_option linter.unnecessarySimpa false
section
variable {S gens NL T n t y qn qn5 l : Nat} {lev : Nat → Nat} {g g2 : StG} {L L2 : Nat → List Nat} {o2 : Nat → Nat → Nat × Nat} {had had2 : Nat → List Nat} {ev ev2 : Nat → List (Nat × Nat)} {emp emp2 : Nat → Bool} {F : StF} {eb b1 bq : Bool}
theorem int_eq0 (n : Nat) : ((n : Int) == 0) = (n == 0) := by cases n <;> rfl
theorem int_eqn (a b : Nat) : ((a : Int) == (b : Int)) = (a == b) := by
  rw [Bool.eq_iff_iff, beq_iff_eq, beq_iff_eq]; exact Int.ofNat_inj
theorem seen_val (h1 : emp y = eb) (h2 : lev t = l) (h3 : (L l).length = qn) (h5 : (L2 l).length = qn5) (hb1 : ((qn : Int) == 0) = b1) (hbq : (b1 || ((qn5 : Int) == 0)) = bq) : seen lev t L L2 emp y = (eb || bq && ((lev y : Int) == (l : Int))) := by
  unfold seen
  rw [h1, h2, h3, h5, ← hbq, ← hb1, int_eq0, int_eq0, int_eqn]
theorem put1_upto {α : Type} (f g : Nat → α) (y : Nat) {b : α} (hb : f y = b) : put1 (fun z => if z < y then f z else g z) y b = fun z => if z < y + 1 then f z else g z := by
  funext z
  by_cases e : z = y
  · subst e; rw [put1_same, if_pos (Nat.lt_succ_self _), hb]
  · rw [put1_ne e]
    by_cases h : z < y
    · rw [if_pos h, if_pos (by omega)]
    · rw [if_neg h, if_neg (by omega)]
theorem LawC.congr {K : Mm} {labK : Nat → Nat} {hv bv vv : Value} {fh fv : Nat → Value} (h : LawC K labK T NL hv bv vv fh fv had ev emp) (he : ∀ z, z < T → emp z = emp2 z) : LawC K labK T NL hv bv vv fh fv had ev emp2 := by
  refine ⟨h.hrow, h.each, ?_, h.vrow, h.veach⟩
  have e : (List.range T).map (fun k => Value.bool (emp2 k)) = (List.range T).map fun k => Value.bool (emp k) := List.map_congr_left fun z hz => by rw [he z (List.mem_range.1 hz)]
  rw [e]; exact h.brow
theorem CrN.left (h : CrN S gens NL T lev n t F g g2 L had ev emp L2 o2 had2 ev2) (hl : (g2.thr t).isSome = true) : had2 = had ∧ ev2 = ev := by
  rcases h.told with ⟨a, b, _⟩ | ⟨_, e, _⟩
  · exact ⟨a, b⟩
  · rw [e] at hl; cases hl
theorem CrN.gave (h : CrN S gens NL T lev n t F g g2 L had ev emp L2 o2 had2 ev2) (hf : F.fn ≠ 1) : had2 = had ∧ ev2 = ev := by
  rcases h.told with ⟨a, b, _⟩ | ⟨e, _⟩
  · exact ⟨a, b⟩
  · exact absurd e hf
/-- What Take told at its end. -/
theorem CrN.took (h : CrN S gens NL T lev n t F g g2 L had ev emp L2 o2 had2 ev2) (hf : F.fn = 1) (hl : (g2.thr t).isSome = false) :
    (had2 = had ∧ ev2 = ev ∧ g2.t0 t = 0 ∧ seen lev t L L2 emp t = true) ∨
    (1 ≤ g2.t0 t ∧ g2.t0 t ≤ S ∧ g2.t1 t < 4294967296 ∧ (g2.t0 t, g2.t1 t) ∉ ev (lev t) ∧ had2 = put1 had t (had t ++ [g2.t0 t]) ∧ ev2 = put1 ev (lev t) (ev (lev t) ++ [(g2.t0 t, g2.t1 t)]) ∧ (g2.lv (lev t)).held (g2.t0 t) = true) := by
  rcases h.told with ⟨a, b, d⟩ | ⟨_, _, d⟩
  · have e : g2.thr t = none := by
      cases hh : g2.thr t with
      | none => rfl
      | some _ => rw [hh] at hl; cases hl
    obtain ⟨e1, e2⟩ := d hf e
    exact .inl ⟨a, b, e1, seen_up _ e2⟩
  · exact .inr d
end
section
variable {σ : World} {M : Mm} {lab : Nat → Nat} {p n l i L B S : Nat} {s : MachS} {c : Nat → Int} {tp : List Nat} {g : StG}
theorem crLink_eq (hM : Mach M lab p s) (hA : AbsG c tp n s g) (hn : Nums c L B S) (hn4 : n < 100000) (h2 : i ≤ S) (w : World) (h : Has σ M w) : Calls Try.prog 29 #[.pointer (some ⟨s.wp, 0, none⟩), .int .i64 (l : Nat), .int .i64 (i : Nat)] w fun r w' => r = .returned (.int .u64 (s.ward.link (l : Nat) (i : Nat))) ∧ Has σ M w' := by
  have hs0 := hn.s0
  exact wardLink_eq h hM.ward _ _ (by rw [hA.ward.sl, hn.slo]; omega) (by have := hA.ward.gens (l : Nat) (i : Nat); omega)
theorem crLeads_eq (hM : Mach M lab p s) (hA : AbsG c tp n s g) (hn : Nums c L B S) (hn4 : n < 100000) (hl : l < L) (h1 : 1 ≤ i) (h2 : i ≤ S) (hh : (g.lv l).held i = true) (w : World) (h : Has σ M w) : Calls Try.prog 28 #[.pointer (some ⟨s.wp, 0, none⟩), .int .i64 (l : Nat), .int .u64 (s.ward.link (l : Nat) (i : Nat))] w fun r w' => r = .returned (.bool true) ∧ Has σ M w' := by
  have hs0 := hn.s0
  have hW : s.ward.there (l : Nat) (i : Nat) = true := WardS.there_iff.2 ⟨by omega, by rw [hA.ward.lv, hn.lev]; omega, by omega, by rw [hA.ward.sl, hn.slo]; omega⟩
  have := leads_eq h hM.ward (l : Nat) i hW (by rw [hA.ward.sl, hn.slo]; omega) (by have := hA.ward.gens (l : Nat) (i : Nat); omega)
  rw [hA.ward.held l i (by rw [hn.lev]; omega) h1 (by rw [hn.slo]; omega), hh] at this
  exact this
/-- A thread's object, and what it was told last. -/
theorem crTold (hM : Mach M lab p s) (hA : AbsG c tp n s g) {t q : Nat} (hq : tp[t]? = some q) : ∃ row e, M q = some (.cells row e (0, 0)) ∧ row[0]? = some (.int .u64 (g.t0 t : Nat)) ∧ row[1]? = some (.int .u64 (g.t1 t : Nat)) := by
  obtain ⟨fv, hv, fbs, hTh⟩ := hM.each t q (by rw [hA.ttp]; exact hq)
  refine ⟨_, _, hTh.obj, ?_, ?_⟩
  · show some (Value.int .u64 ((s.thr t).told 0)) = _
    rw [(hA.thr.told t).1]
  · show some (Value.int .u64 ((s.thr t).told 1)) = _
    rw [(hA.thr.told t).2]
end
theorem lev_cell {c : Nat → Int} {L B S T : Nat} (hc : ConfMay c) (hn : Nums c L B S) (hT : c 1 = (T : Nat)) {y : Nat} (hy : y < T) : c (2 + y) = (levT c y : Nat) := by
  rw [← (levT_of hc hn hT hy).1]
  unfold levelOf
  rw [if_pos ⟨decide_eq_true hc, by omega, by omega⟩, Int.toNat_natCast]
theorem zHeld : (Try.prog.info? 75).bind (·.zero) = some (.agg #[.int .i64 0, .int .i64 0]) := by kernel_rfl
def heldKs : List Kd := [some (some .i64), some (some .i64)]
theorem fits_held (a b : Int) : fits heldKs (#[Value.int .i64 a, .int .i64 b] : Array Value).toList := ⟨rfl, rfl, trivial⟩
theorem held_differ {l : List (Nat × Nat)} {j a b x y : Nat} (hj : l[j]? = some (a, b)) (hx : (x, y) ∉ l) : sames (#[Value.int .i64 (a : Int), .int .i64 (b : Int)] : Array Value).toList (#[Value.int .i64 (x : Int), .int .i64 (y : Int)] : Array Value).toList = false := by
  show (((a : Int) == (x : Int)) && (((b : Int) == (y : Int)) && true)) = false
  rw [int_eqn, int_eqn, Bool.and_true, Bool.and_eq_false_iff]
  by_cases e : a = x
  · subst e
    by_cases e2 : b = y
    · subst e2; exact absurd (List.mem_of_getElem? hj) hx
    · right; simpa using e2
  · left; simpa using e
end
end Go.Proofs.Ytefjjagejgeedaa
