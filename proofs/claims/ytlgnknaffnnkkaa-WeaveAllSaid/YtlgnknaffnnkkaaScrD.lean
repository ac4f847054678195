/- Scripts: the document's 'keep'. -/
import Derived.Test.YtlgnknaffnnkkaaScrC
import Derived.Laws.Rows
import Derived.Deep.RegionLaw
namespace Go.Proofs.Ytlgnknaffnnkkaa
open Go.RowKit
set_option linter.unusedVariables false
set_option linter.unusedSimpArgs false
set_option linter.unnecessarySimpa false

section
variable {σ w : World} {M M' : Mm} {b : Nat} {o o' : Obj} {e : TypeId} {sz n : Nat} {v : Value} {xs : List Value}
theorem Has.box2 (h : Has σ M w) (o o' : Obj) : ∃ M', Has σ M' ((w.alloc o).alloc o') ∧ M.le M' ∧ M' w.heap.size = some o ∧ M' (w.heap.size + 1) = some o' ∧ M w.heap.size = none ∧ M (w.heap.size + 1) = none := by
  have ez : (w.alloc o).heap.size = w.heap.size + 1 := by simp
  have h1 := h.alloc o
  have h2 := h1.alloc o'
  have hf := h1.fresh
  rw [ez] at h2 hf
  exact ⟨_, h2, Mm.le_trans (Mm.le_upd' h.fresh _) (Mm.le_upd' hf _), Mm.le_upd' hf _ _ _ (Mm.upd_same _ _ _), Mm.upd_same _ _ _, h.fresh, Mm.none_of (Mm.le_upd' h.fresh o) hf⟩
theorem Mm.le_upd_both (h : (M.upd b o).le M') (o' : Obj) : (M.upd b o').le (M'.upd b o') := fun c x hc => by
  by_cases e : c = b
  · subst e
    rw [Mm.upd_same] at hc ⊢
    exact hc
  · rw [Mm.upd_ne e] at hc ⊢
    exact h c x (by rw [Mm.upd_ne e]; exact hc)
theorem Own.upd_both (h : Own (M.upd b o) M' e sz v n xs) (o' : Obj) : Own (M.upd b o') (M'.upd b o') e sz v n xs := by
  obtain ⟨hl, h⟩ := h
  refine ⟨hl, ?_⟩
  rcases h with h | ⟨g, cap, cur, hv, hg, hh, r⟩
  · exact .inl h
  · have hne : g ≠ b := fun e => by subst e; rw [Mm.upd_same] at hg; cases hg
    rw [Mm.upd_ne hne] at hg
    exact .inr ⟨g, cap, cur, hv, by rw [Mm.upd_ne hne]; exact hg, by rw [Mm.upd_ne hne]; exact hh, r⟩
theorem Own.upd_at {M0 : Mm} (h : Own M0 M' e sz v n xs) (hb : M0 b = some o) (o' : Obj) : Own M0 (M'.upd b o') e sz v n xs := by
  obtain ⟨hl, h⟩ := h
  refine ⟨hl, ?_⟩
  rcases h with h | ⟨g, cap, cur, hv, hg, hh, r⟩
  · exact .inl h
  · have hne : g ≠ b := fun e => by subst e; rw [hb] at hg; cases hg
    exact .inr ⟨g, cap, cur, hv, hg, by rw [Mm.upd_ne hne]; exact hh, r⟩
theorem Mm.le_get (h : M.le M') (hb : M b = some o) : M' b = some o := h b o hb
theorem Own.one {M0 : Mm} (h : Own M0 M' e sz v n xs) : v.oneCell' = true := by obtain ⟨A, c, rfl⟩ := h.form; rfl
theorem Mm.upd_le (h : (M.upd b o).le M') : ∀ c x, c ≠ b → M c = some x → M' c = some x := fun c x hc hx => h c x (by rw [Mm.upd_ne hc]; exact hx)
end

section
variable {P : Program} {ops : Array Oper} {rest : List Oper} {o : Oper} {a : Act} {w : World} {Q : Exit → Act → World → Prop}
/-- A struct with one part given. -/
theorem wpList_build1 (hg : o.guard = none) (t : TypeId) (i : Nat) (x : Operand) (ho : o.op = .build t #[(i, x)]) {v : Value} (hx : a.eval x = v) {cells : Array Value} (hf : P.built t [(i, v)] = some cells)
    (h : wpList P ops Q rest (a.put o.dst (.agg cells)) w) : wpList P ops Q (o :: rest) a w :=
  wpList_buildTo hg t _ ho o.dst rfl cells (by simpa [hx] using hf) h
end
section
variable {P : Program} {op : Oper} {a : Act} {ops : Array Oper} {σ w : World} {M : Mm} {Q : Exit → Act → World → Prop} {K : Act → World → Prop} {E : Prop}
/-- append of a literal made just now, at a step of a region that draws. -/
theorem step_append_lit {M0 : Mm} {w1 : World} {row : Array Value} {e' : TypeId} (h : Has σ M w) (hle : M0.le M) (hg : op.guard = none) (s x : Operand) (t : TypeId)
    (ho : op.op = .call { callee := .builtin .append, args := #[s, x], argTypes := #[t, t] })
    (hww : w1 = w.alloc (.cells row e'))
    {e : TypeId} {z : Value} {size bytes : Nat} (ht : P.underlying t = some (.slice e)) (hi : (P.info? e).map (fun i => (i.zero, i.size, i.bytes)) = some (some z, size, bytes)) (hzs : z.cells.size = size) (hsz : 0 < size)
    {v : Value} {n : Nat} {xs : List Value} (hs : a.eval s = v) (hown : Own M0 M e size v n xs) {m : Nat} (hx : a.eval x = .slice (some ⟨w.heap.size, 0, none⟩) m m) (hl : row.size = m * size) (h1 : row.toList.all (·.oneCell') = true)
    (h63 : n + m ≤ 140737488355328) (hbytes : (n + m) * bytes ≤ 140737488355328)
    (hk : ∀ v' w', Acc σ M0 w' e size v' (n + m) (xs ++ row.toList) → K (a.put op.dst v') w') : if Region.wanted op (yielded ops a.tmps) = true then Oper.wp P op a w1 K Q else E := by
  have hw : Region.wanted op (yielded ops a.tmps) = true := by simp [Region.wanted, hg]
  rw [if_pos hw]
  subst hww
  obtain ⟨i, hi1, hz, hsize, hby⟩ := info_parts hi
  have hc : ∀ j x, row.toList[j]? = some x → (w.alloc (.cells row e')).cell? ((⟨w.heap.size, 0, none⟩ : Addr).add j) = some x := fun j x hx => by
    rw [Addr.add_mid, Nat.zero_add, cell_of_row _ _ j row e' (0, 0) (heap_alloc_new w _)]
    simpa using hx
  obtain ⟨v', w', hr, M', hH, hl', hO, _⟩ := run_append_own_has (P := P) (h.quietAlloc (.cells row e')) hle t op.type e i z size bytes ht hi1 hz hsize hby hzs hsz hown (.slice (some ⟨w.heap.size, 0, none⟩) m m) (m := m) (news := row.toList)
    (.inr ⟨_, _, rfl, hc⟩) (by simpa using hl) (fun u hu => (List.all_eq_true.1 h1) u hu) (by unfold maxLen; omega) hbytes
  unfold Oper.wp execOp
  simp only [ho, resolve, invoke, builtin, Sem.run_bind, Sem.run_pure, Result.andThen_ok, List.map_toArray, List.map_cons, List.map_nil, hs, hx, hr]
  exact hk v' w' ⟨M', hH, hl', hO⟩
end
theorem take_snoc'' {α : Type} {l : List α} {k : Nat} {x : α} (h : l[k]? = some x) : l.take (k + 1) = l.take k ++ [x] := by
  obtain ⟨hk, rfl⟩ := List.getElem?_eq_some_iff.1 h
  exact List.take_succ_eq_append_getElem hk
abbrev nilS : Value := .slice none 0 0
abbrev noP : Nat → Value := fun _ => nilS
theorem scr_set_ents (c : Nat → Int) (p : Nat → Value) (e v : Value) : (scrRow c p e).setIfInBounds 22 v = scrRow c p v := by kernel_rfl
theorem scr_set_prog (c : Nat → Int) (p p' : Nat → Value) (e v : Value) {t : Nat} (ht : t < 8) (h : ∀ s, s < 8 → p' s = if s = t then v else p s) : (scrRow c p e).setIfInBounds (14 + t) v = scrRow c p' e := by
  have h0 := h 0 (by omega)
  have h1 := h 1 (by omega)
  have h2 := h 2 (by omega)
  have h3 := h 3 (by omega)
  have h4 := h 4 (by omega)
  have h5 := h 5 (by omega)
  have h6 := h 6 (by omega)
  have h7 := h 7 (by omega)
  rcases t with _ | _ | _ | _ | _ | _ | _ | _ | t
  all_goals first | omega | (simp at h0 h1 h2 h3 h4 h5 h6 h7; simp [scrRow, h0, h1, h2, h3, h4, h5, h6, h7])
theorem scr_one (c : Nat → Int) (p : Nat → Value) (e : Value) (hp : ∀ t, t < 8 → (p t).oneCell' = true) (he : e.oneCell' = true) : (scrRow c p e).toList.all (·.oneCell') = true := by
  have h0 := hp 0 (by omega)
  have h1 := hp 1 (by omega)
  have h2 := hp 2 (by omega)
  have h3 := hp 3 (by omega)
  have h4 := hp 4 (by omega)
  have h5 := hp 5 (by omega)
  have h6 := hp 6 (by omega)
  have h7 := hp 7 (by omega)
  simp [scrRow, h0, h1, h2, h3, h4, h5, h6, h7, he]
  repeat' constructor
theorem info_ent : (Try.prog.info? 43).map (fun i => (i.zero, i.size, i.bytes)) = some (some (.agg #[.int .i64 0, .int .i64 0]), 2, 16) := by kernel_rfl
def keepP (c : Nat → Int) (l : Int) (ab : Bool) (P : Nat → List PCall) (t : Nat) : List PCall := if aboveB c t l = ab then P t else []
def keepE (c : Nat → Int) (l : Int) (ab : Bool) (E : List PEnt) : List PEnt := E.filter fun x => aboveB c x.1 l == ab
def keepV (c : Nat → Int) (l : Int) (ab : Bool) (p : Nat → Value) (k t : Nat) : Value := if t < k ∧ aboveB c t l = ab then p t else nilS
theorem built_conf (c : Nat → Int) : Try.prog.built 29 [(0, .agg #[.int .i64 (c 0), .int .i64 (c 1), .int .i64 (c 2), .int .i64 (c 3), .int .i64 (c 4), .int .i64 (c 5), .int .i64 (c 6), .int .i64 (c 7), .int .i64 (c 8), .int .i64 (c 9), .int .i64 (c 10), .int .i64 (c 11), .int .i64 (c 12), .int .i64 (c 13)])] = some (scrRow c noP nilS) := by kernel_rfl
theorem zero_scr : (Try.prog.info? 29).bind (·.zero) = some (scrV (fun _ => 0) noP nilS) := by kernel_rfl
theorem scr_one0 (c : Nat → Int) : (scrRow c noP nilS).toList.all (·.oneCell') = true := scr_one c _ _ (fun _ _ => rfl) rfl
set_option maxRecDepth 100000 in
set_option maxHeartbeats 4000000 in
theorem keep_has0 {σ w : World} {M0 M : Mm} (h : Has σ M w) (hle0 : M0.le M) (c : Nat → Int) (p : Nat → Value) (e : Value) (P : Nat → List PCall) (E : List PEnt) (hs : RdS M0 p e P E) (hE : E.length ≤ 1000000) (l : Int) (ab : Bool) :
    Calls Try.prog 19 #[scrV c p e, .int .i64 l, .bool ab] w fun r w' => ∃ p' e' M' K, r = .returned (scrV c p' e') ∧ Has σ M' w' ∧ M.le M' ∧ M.le K ∧ (∀ t, t < 8 → Rd M0 7 (p' t) (keepP c l ab P t).length ((keepP c l ab P t).flatMap encK)) ∧ Own K M' 43 2 e' (keepE c l ab E).length ((keepE c l ab E).flatMap encE) := by
  have AB : Hid (∀ (M : Mm) (w : World) (t : Int), Has σ M w → Calls Try.prog 18 #[confV c, .int .i64 t, .int .i64 l] w fun e w' => e = .returned (.bool (aboveB c t l)) ∧ Has σ M w') := fun M w t h => refAbove_has h c t l
  have RP : Hid (∀ t, t < 8 → Rd M0 7 (p t) (P t).length ((P t).flatMap encK)) := hs.progs
  have PF : Hid (∀ t, t < 8 → ∃ A cap, p t = .slice A (P t).length cap) := fun t ht => (hs.progs t ht).form
  have he := (hs.le hle0).ents
  clear hs
  obtain ⟨A, cap, rfl⟩ := he.form
  obtain ⟨n, hl⟩ : ∃ n, E.length = n := ⟨_, rfl⟩
  rw [hl] at he hE ⊢
  have HL := Lib.hid hl
  clear hl
  have GT := Lib.hid (fun (t : Nat) (ht : t < 8) => scr_prog c p (.slice A n cap) ht)
  have g1 := scr_ents c p (.slice A n cap)
  have x1 := scr_conf c p (.slice A n cap)
  have x1' := scr_all c p (.slice A n cap)
  simp only [confV, ints14_lit] at AB
  simp only [scrV]
  generalize hr1 : scrRow c p (.slice A n cap) = r1 at GT g1 x1 x1' ⊢
  go_enter Try.func19, Try.ntmps19
  go_upto_region 1 with (fail)
  obtain ⟨M2, hbx, hle2, hb3, hb6, hn3, hn6⟩ := h.box2 (.cells r1 29) (.cells #[.int .i64 0, .int .i64 0, .int .i64 0, .int .i64 0, .int .i64 0, .int .i64 0, .int .i64 0, .int .i64 0, .int .i64 0, .int .i64 0, .int .i64 0, .int .i64 0, .int .i64 0, .int .i64 0, .slice none 0 0, .slice none 0 0, .slice none 0 0, .slice none 0 0, .slice none 0 0, .slice none 0 0, .slice none 0 0, .slice none 0 0, .slice none 0 0] 29)
  generalize (w.alloc _).alloc _ = wx at hbx ⊢
  have hne_b3_b6 : w.heap.size ≠ w.heap.size + 1 := Nat.ne_of_lt (Nat.lt_succ_self _)
  generalize w.heap.size + 1 = b6 at hb6 hn6 hne_b3_b6 ⊢
  generalize w.heap.size = b3 at hb3 hn3 hne_b3_b6 ⊢
  clear h
  try clear w
  have h := hbx
  clear hbx
  obtain ⟨w, rfl⟩ : ∃ x : World, x = wx := ⟨_, rfl⟩
  have hb6 : M2 b6 = some (.cells (scrRow (fun _ => 0) noP nilS) 29) := hb6
  go_upto_region 2 with (first
    | ((with_reducible show wpList _ _ _ ({ dst := _, op := Op.load 24 _, type := _, pos := _, after := _, guard := _ } :: _) _ _); refine wpList_agg_has h rfl 24 _ rfl rfl hb3 x1 rfl Try.underlying24 rfl (by kernel_rfl) ?_; try simp only [Act.put, List.setIfInBounds_toArray, List.set_cons_zero, List.set_cons_succ])
    | (with_reducible show wpList _ _ _ ({ dst := _, op := Op.build 29 _, type := _, pos := _, after := _, guard := _ } :: _) _ _; refine wpList_build1 rfl 29 0 _ rfl rfl (built_conf c) ?_; try simp only [Act.put, List.setIfInBounds_toArray, List.set_cons_zero, List.set_cons_succ])
    | (with_reducible show wpList _ _ _ ({ dst := _, op := Op.alloc 29, type := _, pos := _, after := _, guard := _ } :: _) _ _; refine wpList_alloc_has h rfl 29 rfl _ zero_scr ?_; clear h; intro b7 w h hn7; have hb7 := Mm.upd_same M2 b7 (.cells (scrV (fun _ => 0) noP nilS).cells 29); try simp only [Act.put, List.setIfInBounds_toArray, List.set_cons_zero, List.set_cons_succ])
    | (with_reducible show wpList _ _ _ ({ dst := _, op := Op.store 29 _ _, type := _, pos := _, after := _, guard := _ } :: _) _ _; refine wpList_storeAll_has (cells := scrRow c noP nilS) h rfl 29 _ _ rfl rfl rfl hb7 rfl rfl rfl (by kernel_rfl) (scr_one0 c) ?_; clear h; intro w h; rw [Mm.upd_upd] at h))
  replace hb7 := Mm.upd_same M2 b7 (.cells (scrRow c noP nilS) 29)
  have hle3 := Mm.le_upd' hn7 (.cells (scrRow c noP nilS) 29)
  have hle32 : Hid (∀ v, M2.le (M2.upd b7 v)) := fun v => Mm.le_upd' hn7 v
  have hx37 : b3 ≠ b7 := Mm.ne_of hn7 hb3
  have hx67 : b6 ≠ b7 := Mm.ne_of hn7 hb6
  have K0 : keepV c l ab p 0 = noP := by funext t; simp [keepV]
  rw [← K0] at h
  have KS : Hid (∀ k s : Nat, s < 8 → keepV c l ab p (k + 1) s = if s = k then (if aboveB c k l = ab then p k else nilS) else keepV c l ab p k s) := fun k s hs => by
    unfold keepV
    by_cases e : s = k
    · subst e
      simp
    · simp only [if_neg e]
      congr 1
      simp only [eq_iff_iff]
      constructor
      · exact fun ⟨h1, h2⟩ => ⟨by omega, h2⟩
      · exact fun ⟨h1, h2⟩ => ⟨by omega, h2⟩
  have KN : Hid (∀ k : Nat, k < 8 → aboveB c k l ≠ ab → scrRow c (keepV c l ab p (k + 1)) nilS = scrRow c (keepV c l ab p k) nilS) := fun k hk hab => by
    have e : ∀ s, s < 8 → keepV c l ab p (k + 1) s = keepV c l ab p k s := fun s hs => by
      rw [KS.out k s hs]
      by_cases e : s = k
      · subst e
        simp [keepV, hab]
      · simp [e]
    simp only [scrRow, e 0 (by omega), e 1 (by omega), e 2 (by omega), e 3 (by omega), e 4 (by omega), e 5 (by omega), e 6 (by omega), e 7 (by omega)]
  clear K0 hle3
  go_wp2
  go_loopw [8] (fun i wr => ∃ k : Nat, k ≤ 8 ∧ i = .int .i64 k ∧ Has σ (M2.upd b7 (.cells (scrRow c (keepV c l ab p k) nilS) 29)) wr) (fun i _ => 8 - (intOf i).toNat)
  case atStart => exact ⟨0, by omega, rfl, h⟩
  case round =>
    clear h w hb7
    obtain ⟨w, rfl⟩ : ∃ x : World, x = wr := ⟨_, rfl⟩
    obtain ⟨k, hk, rfl, h⟩ := hrel
    by_cases hlt : k < 8
    · have hb34 : (M2.upd b7 (.cells (scrRow c (keepV c l ab p k) nilS) 29)) b3 = some (.cells r1 29) := by rw [Mm.upd_ne hx37]; exact hb3
      have hb74 := Mm.upd_same M2 b7 (.cells (scrRow c (keepV c l ab p k) nilS) 29)
      have hs7 := scr_size c (keepV c l ab p k) nilS
      have SN := Lib.hid (fun (v : Value) (h : ∀ s, s < 8 → keepV c l ab p (k + 1) s = if s = k then v else keepV c l ab p k s) => scr_set_prog c (keepV c l ab p k) (keepV c l ab p (k + 1)) nilS v hlt h)
      have KNk := Lib.hid (KN.out k hlt)
      have KSk := Lib.hid (KS.out k)
      generalize scrRow c (keepV c l ab p k) nilS = rk at *
      obtain ⟨M4, hM4⟩ : ∃ M4, M4 = M2.upd b7 (.cells rk 29) := ⟨_, rfl⟩
      rw [← hM4] at h hb34 hb74
      have ABk := Lib.hid (fun (w : World) (h : Has σ M4 w) => AB.out M4 w k h)
      obtain ⟨A', cap', hp⟩ := PF.out k hlt
      have g := GT.out k hlt
      rw [hp] at g KSk
      have hlt7 : 14 + k < rk.size := by omega
      have HM4 := Lib.hid hM4
      clear hM4
      cases hab : (aboveB c k l == ab)
      · have hne : aboveB c k l ≠ ab := by simpa using hab
        have E := Lib.hid (KNk.out hne)
        clear KNk KSk SN hne
        generalize aboveB c k l = bk at *
        go_wp2_with (first
          | ((with_reducible show wpList _ _ _ ({ dst := _, op := Op.load 24 _, type := _, pos := _, after := _, guard := _ } :: _) _ _); refine wpList_agg_has h rfl 24 _ rfl rfl hb34 x1 rfl Try.underlying24 rfl (by kernel_rfl) ?_; try simp only [Act.put, List.setIfInBounds_toArray, List.set_cons_zero, List.set_cons_succ])
          | (go_at_call 18; refine (ABk.out _ h).mono ?_; clear h; rintro e w ⟨rfl, h⟩))
        go_roundw
        case rel => exact ⟨k + 1, by omega, by go_num, by rw [E.out, ← HM4.out]; exact h⟩
        case measure => simp [intOf]; omega
      · have hne : aboveB c k l = ab := by simpa using hab
        have E := Lib.hid (SN.out _ (by simpa only [hne, if_true] using KSk.out))
        clear KNk KSk SN hne
        generalize aboveB c k l = bk at *
        go_wp2_with (first
          | ((with_reducible show wpList _ _ _ ({ dst := _, op := Op.load 24 _, type := _, pos := _, after := _, guard := _ } :: _) _ _); refine wpList_agg_has h rfl 24 _ rfl rfl hb34 x1 rfl Try.underlying24 rfl (by kernel_rfl) ?_; try simp only [Act.put, List.setIfInBounds_toArray, List.set_cons_zero, List.set_cons_succ])
          | (with_reducible show wpList _ _ _ ({ dst := _, op := Op.load 25 _, type := _, pos := _, after := _, guard := _ } :: _) _ _; refine wpList_load1_has h rfl 25 _ rfl rfl hb34 g Try.underlying25 rfl ?_)
          | (with_reducible show wpList _ _ _ ({ dst := _, op := Op.store 25 _ _, type := _, pos := _, after := _, guard := _ } :: _) _ _; refine wpList_store1_has h rfl 25 _ _ rfl rfl rfl hb74 hlt7 rfl (by kernel_rfl) ?_; clear h; intro w h)
          | (go_at_call 18; refine (ABk.out _ h).mono ?_; clear h; rintro e w ⟨rfl, h⟩))
        go_roundw
        case rel => exact ⟨k + 1, by omega, by go_num, by
          have h : Has σ (M4.upd b7 (.cells (rk.setIfInBounds (14 + k) (.slice A' (P k).length cap')) 29)) w := h
          rw [HM4.out, Mm.upd_upd, E.out] at h
          exact h⟩
        case measure => simp [intOf]; omega
    · obtain rfl : k = 8 := by omega
      have RPF : Hid (∀ t, t < 8 → Rd M0 7 (keepV c l ab p 8 t) (keepP c l ab P t).length ((keepP c l ab P t).flatMap encK)) := fun t ht => by
        unfold keepV keepP
        by_cases e : aboveB c t l = ab
        · rw [if_pos ⟨ht, e⟩, if_pos e]
          exact RP.out t ht
        · rw [if_neg (fun h => e h.2), if_neg e]
          exact Rd.nil _ _ _
      have OPF : Hid (∀ t, t < 8 → (keepV c l ab p 8 t).oneCell' = true) := fun t ht => by
        unfold keepV
        obtain ⟨A', cap', hp⟩ := PF.out t ht
        rw [hp]
        split <;> rfl
      generalize keepV c l ab p 8 = pf at h RPF OPF
      clear KS KN GT PF RP hk hlt
      have hn7M := Mm.none_of hle2 hn7
      go_wp2
      go_loopw [9] (fun i wr => ∃ (k : Nat) (v : Value), k ≤ n ∧ i = .int .i64 k ∧ Acc σ (M2.upd b7 (.cells (scrRow c pf v) 29)) wr 43 2 v (keepE c l ab (E.take k)).length ((keepE c l ab (E.take k)).flatMap encE)) (fun i _ => n - (intOf i).toNat)
      case atStart => exact ⟨0, nilS, by omega, rfl, by simpa [keepE] using Acc.nil h _ _⟩
      case round =>
        clear h w
        obtain ⟨w, rfl⟩ : ∃ x : World, x = wr := ⟨_, rfl⟩
        obtain ⟨k, v, hk, rfl, M', h, hle, hown⟩ := hrel
        have hb3' : M' b3 = some (.cells r1 29) := hle _ _ (by rw [Mm.upd_ne hx37]; exact hb3)
        have hb7' : M' b7 = some (.cells (scrRow c pf v) 29) := hle _ _ (Mm.upd_same _ _ _)
        by_cases hlt : k < n
        · obtain ⟨⟨x1', x2'⟩, hx⟩ : ∃ x, E[k]? = some x := ⟨_, List.getElem?_eq_getElem (by rw [HL.out]; exact hlt)⟩
          have T := Lib.hid (take_snoc'' hx)
          have hlen : (keepE c l ab (E.take k)).length ≤ 1000000 := by
            have h1 : (keepE c l ab (E.take k)).length ≤ (E.take k).length := List.length_filter_le _ _
            have := List.length_take_le k E
            omega
          obtain ⟨b1, o1, c1, cs1, t1, f1, e1, hM1, hx1⟩ := he.elem encE_len hlt hx
          cases e1
          have hM1' : M' b1 = some (.cells cs1 t1 f1) := hle _ _ (by rw [Mm.upd_ne (Mm.ne_of hn7M hM1)]; exact hle2 _ _ hM1)
          have hc1 : cs1.extract (o1 + k * 2) (o1 + k * 2 + 2) = #[.int .i64 x1', .int .i64 x2'] := extract_of hx1 rfl
          have d0 : cs1[o1 + k * 2]? = some (.int .i64 x1') := by simpa using hx1 0 _ rfl
          have ABx := Lib.hid (fun (w : World) (h : Has σ M' w) => AB.out M' w x1' h)
          have EF : Hid (keepE c l ab (E.take (k + 1)) = keepE c l ab (E.take k) ++ (if aboveB c x1' l == ab then [(x1', x2')] else [])) := by
            show _ = _
            rw [T.out]
            unfold keepE
            rw [List.filter_append]
            congr 1
            simp [List.filter_cons]
          have d1 : cs1[o1 + k * 2 + 1]? = some (.int .i64 x2') := by simpa using hx1 1 _ rfl
          clear hx1 hx T hM1
          go_upto_region 10 with (first
            | (with_reducible show wpList _ _ _ ({ dst := _, op := Op.load 27 _, type := _, pos := _, after := _, guard := _ } :: _) _ _; refine wpList_load1_has h rfl 27 _ rfl rfl hb3' g1 Try.underlying27 rfl ?_))
          cases hab : (aboveB c x1' l == ab)
          · have E2 : Hid (keepE c l ab (E.take (k + 1)) = keepE c l ab (E.take k)) := by show _ = _; rw [EF.out, hab]; simp
            clear EF
            generalize aboveB c x1' l = bk at *
            have hne : ¬ bk = ab := by simpa using hab
            refine wp_region_class (Has σ M') (by kernel_rfl) (by kernel_rfl) h.drew ?_
            clear h
            repeat (first
              | go_big_quiet_skip
              | (go_big_quiet_want; first
                | (refine quiet_agg_has 24 _ rfl rfl hb3' x1 rfl Try.underlying24 rfl (by kernel_rfl) ?_; simp only [Act.put, List.setIfInBounds_toArray, List.set_cons_zero, List.set_cons_succ]; go_big_quiet_on)
                | (refine quiet_load_has 27 _ rfl rfl hb3' g1 Try.underlying27 rfl ?_; simp only [Act.put, List.setIfInBounds_toArray, List.set_cons_zero, List.set_cons_succ]; go_big_quiet_on)
                | (refine quiet_load_has 3 _ rfl rfl hM1' d0 Try.underlying3 rfl ?_; simp only [Act.put, List.setIfInBounds_toArray, List.set_cons_zero, List.set_cons_succ]; go_big_quiet_on)
                | (go_big_quiet_op; first | go_big_quiet_on | go_big_quiet_call (first | with_reducible exact fun _ => rfl | with_reducible exact ABx.out _))))
            refine wpQuiet_nil ?_
            try clear w
            intro w h
            go_wp2
            refine ⟨⟨_, _, _, _, _, _, _, _, _, _, _, _, _, _, _, _, _, _, _, _, _, _, _, _, _, _, _, _, _, _, ?rel, rfl⟩, ?measure⟩
            case rel => exact ⟨k + 1, v, by omega, by go_num, by rw [E2.out]; exact ⟨M', h, hle, hown⟩⟩
            case measure => simp [intOf]; omega
          · have E2 : Hid (keepE c l ab (E.take (k + 1)) = keepE c l ab (E.take k) ++ [(x1', x2')]) := by show _ = _; rw [EF.out, hab]; simp
            clear EF
            generalize aboveB c x1' l = bk at *
            have hne : bk = ab := by simpa using hab
            refine wp_region_class (Has σ M') (by kernel_rfl) (by kernel_rfl) h.drew ?_
            clear h
            repeat (first
              | go_big_quiet_skip
              | (go_big_quiet_want; first
                | (refine quiet_agg_has 24 _ rfl rfl hb3' x1 rfl Try.underlying24 rfl (by kernel_rfl) ?_; simp only [Act.put, List.setIfInBounds_toArray, List.set_cons_zero, List.set_cons_succ]; go_big_quiet_on)
                | (refine quiet_load_has 27 _ rfl rfl hb3' g1 Try.underlying27 rfl ?_; simp only [Act.put, List.setIfInBounds_toArray, List.set_cons_zero, List.set_cons_succ]; go_big_quiet_on)
                | (refine quiet_load_has 3 _ rfl rfl hM1' d0 Try.underlying3 rfl ?_; simp only [Act.put, List.setIfInBounds_toArray, List.set_cons_zero, List.set_cons_succ]; go_big_quiet_on)
                | (go_big_quiet_op; first | go_big_quiet_on | go_big_quiet_call (first | with_reducible exact fun _ => rfl | with_reducible exact ABx.out _))))
            refine wpQuiet_nil ?_
            try clear w
            intro w h
            clear ABx
            have gv := scr_ents c pf v
            have hlt7 : 22 < (scrRow c pf v).size := by rw [scr_size]; omega
            have SE := Lib.hid (fun v' => scr_set_ents c pf v v')
            generalize hrv : scrRow c pf v = rv at hb7' gv hlt7 SE hle hown
            clear hrv
            go_upto_region 11 with (fail)
            have hA : w.cell? ⟨b7, 22, none⟩ = some v := by rw [h.cell hb7' 22]; exact gv
            have hA' : ∀ o, (w.alloc o).cell? ⟨b7, 22, none⟩ = some v := fun o => by rw [(h.quietAlloc o).cell hb7' 22]; exact gv
            have hB : w.cell? ⟨b3, 22, none⟩ = some (.slice (some ⟨b1, o1, none⟩) n cap) := by rw [h.cell hb3' 22]; exact g1
            have hC : w.cell? ⟨b1, o1 + k * 2, none⟩ = some (.int .i64 x1') := by rw [h.cell hM1' _]; exact d0
            have hD : w.cell? ⟨b1, o1 + k * 2 + 1, none⟩ = some (.int .i64 x2') := by rw [h.cell hM1' _]; exact d1
            go_region_law (go_loud (refine step_append_lit h.drew hle rfl _ _ _ rfl rfl Try.underlying27 info_ent rfl (by omega) rfl hown rfl rfl rfl (by omega) (by omega) ?_; clear h hA hA' hB hC hD; intro v w hacc; obtain ⟨M5, h, hle5, hown5⟩ := hacc; have hS := h.cell (Mm.le_get hle5 (Mm.upd_same _ _ _)) 22; have hF := h.free (Mm.le_get hle5 (Mm.upd_same _ _ _)) 22; rw [Array.getElem?_eq_getElem hlt7] at hS; obtain ⟨A5, c5, rfl⟩ := hown5.form))
            all_goals
              have h2 := h.setCell (Mm.le_get hle5 (Mm.upd_same _ _ _)) 22 (.slice A5 ((keepE c l ab (E.take k)).length + 1) c5)
              have le2 := Mm.le_upd_both hle5 (.cells (rv.setIfInBounds 22 (.slice A5 ((keepE c l ab (E.take k)).length + 1) c5)) 29)
              have own2 := Own.upd_both hown5 (.cells (rv.setIfInBounds 22 (.slice A5 ((keepE c l ab (E.take k)).length + 1) c5)) 29)
              rw [SE.out] at h2 le2 own2
              clear h hle5 hown5 hS hF
              generalize World.setCell _ _ _ = wx at h2 ⊢
              go_wp2
              refine ⟨⟨k + 1, by omega, by omega, .slice A5 ((keepE c l ab (E.take k)).length + 1) c5, ?_⟩, by simp [intOf]; omega⟩
              rw [E2.out]
              exact ⟨_, h2, le2, by simpa [encE] using own2⟩
        · obtain rfl : k = n := by omega
          have EA : E.take k = E := List.take_of_length_le (by rw [HL.out]; exact Nat.le_refl _)
          rw [EA] at hown
          clear EA hlt hk
          have hb6' : M' b6 = some (.cells (scrRow (fun _ => 0) noP nilS) 29) := hle _ _ (by rw [Mm.upd_ne hx67]; exact hb6)
          have sa := scr_all c pf v
          have one := scr_one c pf v OPF.out hown.one
          have sz := scr_size c pf v
          generalize hrv : scrRow c pf v = rv at hb7' sa one sz hle hown
          have HRV := Lib.hid hrv
          clear hrv
          go_wp2_with (first
            | (with_reducible show wpList _ _ _ ({ dst := _, op := Op.load 27 _, type := _, pos := _, after := _, guard := _ } :: _) _ _; refine wpList_load1_has h rfl 27 _ rfl rfl hb3' g1 Try.underlying27 rfl ?_)
            | ((with_reducible show wpList _ _ _ ({ dst := _, op := Op.load 29 _, type := _, pos := _, after := _, guard := _ } :: _) _ _); refine wpList_agg_has h rfl 29 _ rfl rfl hb7' sa sz Try.underlying29 rfl (by kernel_rfl) ?_; try simp only [Act.put, List.setIfInBounds_toArray, List.set_cons_zero, List.set_cons_succ])
            | ((with_reducible show wpList _ _ _ ({ dst := _, op := Op.store 29 _ _, type := _, pos := _, after := _, guard := _ } :: _) _ _); refine wpList_storeAll_has (cells := rv) h rfl 29 _ _ rfl rfl rfl hb6' rfl (by rw [scr_size, sz]) rfl (by rw [sz]; kernel_rfl) one ?_; clear h; intro w h))
          refine bodyPost_ret (results_cell_row rfl _ _ _ _ _ _ _ rfl (h.at_ b6 _ (Mm.upd_same _ _ _)) Try.underlying29 rfl (by rw [sz]; kernel_rfl)) rfl ⟨pf, v, _, _, ?_, h, Mm.le_upd (Mm.le_trans hle2 (Mm.le_trans (hle32.out _) hle)) hn6 _, Mm.le_trans hle2 (hle32.out _), fun t ht => RPF.out t ht, hown.upd_at (by rw [Mm.upd_ne hx67]; exact hb6) _⟩
          rw [HRV.out]

theorem keep_has {σ w : World} {M : Mm} (h : Has σ M w) (c : Nat → Int) (p : Nat → Value) (e : Value) (P : Nat → List PCall) (E : List PEnt) (hs : RdS M p e P E) (hE : E.length ≤ 1000000) (l : Int) (ab : Bool) :
    Calls Try.prog 19 #[scrV c p e, .int .i64 l, .bool ab] w fun r w' => ∃ p' e' M', r = .returned (scrV c p' e') ∧ Has σ M' w' ∧ M.le M' ∧ RdS M' p' e' (keepP c l ab P) (keepE c l ab E) :=
  (keep_has0 h (Mm.le_refl _) c p e P E hs hE l ab).mono fun r w' ⟨p', e', M', K, h1, h2, h3, h4, h5, h6⟩ => ⟨p', e', M', h1, h2, h3, ⟨fun t ht => (h5 t ht).le h3, h6.rd⟩⟩
end Go.Proofs.Ytlgnknaffnnkkaa
