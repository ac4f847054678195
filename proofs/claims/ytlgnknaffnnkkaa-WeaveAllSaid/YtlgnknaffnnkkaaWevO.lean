/- Weaver: all variants are alike up to the level (plain); the chapter's example. -/
import Derived.Test.YtlgnknaffnnkkaaWevN
namespace Go.Proofs.Ytlgnknaffnnkkaa
open Go.RowKit
set_option linter.unusedVariables false
set_option linter.unusedSimpArgs false
set_option linter.unnecessarySimpa false
theorem thr_mem {c : Nat → Int} {l : Int} {t : Nat} (ht : t < 8) : t ∈ thrTo c l 8 ↔ aboveB c t l = true := by
  unfold thrTo
  rw [List.mem_filter]
  simp [ht]
theorem keepP_prog (c : Nat → Int) (l : Int) (g : List PCall → List PCall) (P : Nat → List PCall) (t : Nat) (ht : t < 8) : keepP c l false (progTo g (thrTo c l 8) P) t = keepP c l false P t := by
  unfold keepP progTo
  by_cases h : aboveB c t l = false
  · rw [if_pos h, if_pos h, if_neg (fun hm => by rw [(thr_mem ht).1 hm] at h; cases h)]
  · rw [if_neg h, if_neg h]
theorem keepP_var (c : Nat → Int) (l : Int) (P : Nat → List PCall) {k : Nat} (hk : k < 9) (t : Nat) (ht : t < 8) : keepP c l false (varP c l P k) t = keepP c l false P t := by
  rcases k with _ | _ | _ | _ | _ | _ | _ | _ | _ | k
  · show keepP c l false (keepP c l false P) t = _
    unfold keepP
    split <;> rfl
  · rfl
  · rfl
  · rfl
  · rfl
  · rfl
  · rfl
  · show keepP c l false (progTo (fun (_ : List PCall) => ([] : List PCall)) (thrTo c l 8) P) t = _
    exact keepP_prog c l _ P t ht
  · show keepP c l false (progTo List.reverse (thrTo c l 8) P) t = _
    exact keepP_prog c l _ P t ht
  · omega
theorem keepE_append (c : Nat → Int) (l : Int) (A B : List PEnt) : keepE c l false (A ++ B) = keepE c l false A ++ keepE c l false B := by simp [keepE]
theorem keepE_lo (c : Nat → Int) (l : Int) (E : List PEnt) : keepE c l false (loE c l E) = keepE c l false E := by
  unfold keepE loE
  rw [List.filter_filter]
  congr 1
  funext x
  cases aboveB c x.1 l <;> rfl
theorem keepE_hi (c : Nat → Int) (l : Int) (E : List PEnt) : keepE c l false (hiE c l E) = [] := by
  unfold keepE hiE
  rw [List.filter_filter, List.filter_eq_nil_iff]
  intro x _
  cases aboveB c x.1 l <;> simp
theorem keepE_fr (c : Nat → Int) (l what : Int) : keepE c l false (frE what (thrTo c l 8)) = [] := by
  unfold keepE frE
  rw [List.filter_eq_nil_iff]
  intro x hx
  obtain ⟨t, ht, rfl⟩ := List.mem_map.1 hx
  have := (thr_mem (c := c) (l := l) (thrTo_lt ht)).1 ht
  simp [this]
theorem keepE_each (c : Nat → Int) (l : Int) (m : Nat) : ∀ E : List PEnt, keepE c l false (eachE c l m E) = keepE c l false E
  | [] => rfl
  | x :: E => by
    have ih := keepE_each c l m E
    have e1 : eachE c l m (x :: E) = List.replicate (manyOf c l m x) x ++ eachE c l m E := by simp [eachE]
    rw [e1, keepE_append, ih]
    cases hab : aboveB c x.1 l
    · have : manyOf c l m x = 1 := by simp [manyOf, hab]
      rw [this]
      simp [keepE, hab, List.filter_cons]
    · have : keepE c l false (List.replicate (manyOf c l m x) x) = [] := by
        unfold keepE
        rw [List.filter_eq_nil_iff]
        intro y hy
        rw [List.eq_of_mem_replicate hy, hab]
        simp
      rw [this]
      simp [keepE, hab, List.filter_cons]
theorem keepE_var (c : Nat → Int) (l : Int) (E : List PEnt) {k : Nat} (hk : k < 9) : keepE c l false (varE c l E k) = keepE c l false E := by
  rcases k with _ | _ | _ | _ | _ | _ | _ | _ | _ | k
  · show keepE c l false (keepE c l false E) = _
    unfold keepE
    rw [List.filter_filter]
    congr 1
    funext x
    simp
  · exact keepE_each c l 0 E
  · exact keepE_each c l 2 E
  · show keepE c l false (loE c l E ++ hiE c l E) = _
    rw [keepE_append, keepE_lo, keepE_hi, List.append_nil]
  · show keepE c l false (hiE c l E ++ loE c l E) = _
    rw [keepE_append, keepE_lo, keepE_hi, List.nil_append]
  · show keepE c l false (frE 3 (thrTo c l 8) ++ E) = _
    rw [keepE_append, keepE_fr, List.nil_append]
  · show keepE c l false (frE 1 (thrTo c l 8) ++ E) = _
    rw [keepE_append, keepE_fr, List.nil_append]
  · rfl
  · rfl
  · omega
theorem varE_le (c : Nat → Int) (l : Int) (E : List PEnt) (k n : Nat) (h : E.length ≤ n) : (varE c l E k).length ≤ 2 * n + 8 := by
  have h1 := hiE_le c l E
  have h2 := loE_le c l E
  have h3 := keepE_le c l E
  have h4 := eachE_le c l (m := 0) (by omega) E
  have h5 := eachE_le c l (m := 2) (by omega) E
  have h6 := thrTo_le c l 8
  unfold varE
  split <;> first | omega | (simp only [List.length_append, frE, List.length_map]; omega)
section
variable {K M : Mm} {b : Nat} {o : Obj}
/-- A class of memories that know nothing of one block, and that block's contents. -/
theorem upd_X (hz : K b = none) (hle : (K.upd b o).le M) : ∃ K' : Mm, K' b = none ∧ (K'.upd b o).le M ∧ ∀ c x, M c = some x → ((K.upd b o) c = none ∨ K c ≠ none) → K' c = some x := by
  refine ⟨M.drop b, Mm.drop_none M b, fun c x hc => ?_, fun c x hc hd => Mm.drop_of hc fun e => ?_⟩
  · by_cases e : c = b
    · subst e; rw [Mm.upd_same] at hc; rw [← hc]; exact hle _ _ (Mm.upd_same _ _ _)
    · rw [Mm.upd_ne e] at hc; exact Mm.drop_le _ _ _ _ hc
  · subst e
    rcases hd with hd | hd
    · rw [Mm.upd_same] at hd; cases hd
    · exact hd hz
end
set_option maxHeartbeats 1000000 in
theorem lives1_other {σ w : World} {M : Mm} (h : Has σ M w) (v : Array Value) (hv : v.size = 23) (nm : ByteArray) (hn : (nm.toList == [116, 119, 105, 99, 101]) = false) (bm : Nat) :
    Calls Try.prog 14 #[.string nm, .agg v, .pointer (some ⟨bm, 0, none⟩)] w fun r w' => r = .returned (.bool true) ∧ Has σ M w' := by
  go_enter Try.func14, Try.ntmps14
  go_upto_region 1 with (fail)
  obtain ⟨M2, hbx, hle2, hb4, hn4⟩ := h.box (.cells v 29)
  generalize w.alloc _ = wx at hbx ⊢
  generalize w.heap.size = b4 at hb4 hn4 ⊢
  clear h
  try clear w
  have h := hbx
  clear hbx
  obtain ⟨w, rfl⟩ : ∃ x : World, x = wx := ⟨_, rfl⟩
  go_wp2
  go_ret
  exact ⟨rfl, h.le hle2⟩
set_option maxHeartbeats 1000000 in
theorem lives1_twice {σ w : World} {M : Mm} (h : Has σ M w) (v : Array Value) (hv : v.size = 23) {A : Option Addr} {n cap : Nat} (g : v[22]? = some (.slice A n cap)) {bm : Nat} {x : Int} (hbm : M bm = some (.cells #[.int .i64 x] 3)) :
    Calls Try.prog 14 #[.string (nameOf 2), .agg v, .pointer (some ⟨bm, 0, none⟩)] w fun r w' => r = .returned (.bool true) ∧ Has σ (M.upd bm (.cells #[.int .i64 n] 3)) w' := by
  show Calls Try.prog 14 #[.string ⟨#[116, 119, 105, 99, 101]⟩, .agg v, .pointer (some ⟨bm, 0, none⟩)] w _
  have lt1 : 0 < (#[Value.int .i64 x] : Array Value).size := Nat.lt_succ_self 0
  go_enter Try.func14, Try.ntmps14
  go_upto_region 1 with (fail)
  obtain ⟨M2, hbx, hle2, hb4, hn4⟩ := h.box (.cells v 29)
  generalize w.alloc _ = wx at hbx ⊢
  generalize w.heap.size = b4 at hb4 hn4 ⊢
  clear h
  try clear w
  have h := hbx
  clear hbx
  obtain ⟨w, rfl⟩ : ∃ x : World, x = wx := ⟨_, rfl⟩
  have hbm' := hle2 _ _ hbm
  go_wp2_with (first
    | (with_reducible show wpList _ _ _ ({ dst := _, op := Op.load 27 _, type := _, pos := _, after := _, guard := _ } :: _) _ _; refine wpList_load1_has h rfl 27 _ rfl rfl hb4 g Try.underlying27 rfl ?_)
    | (with_reducible show wpList _ _ _ ({ dst := _, op := Op.store 3 _ _, type := _, pos := _, after := _, guard := _ } :: _) _ _; refine wpList_store1_has h rfl 3 _ _ rfl rfl rfl hbm' lt1 rfl (by kernel_rfl) ?_; clear h; intro w h))
  go_ret
  replace h : Has σ (M2.upd bm (.cells #[.int .i64 n] 3)) w := h
  refine ⟨rfl, h.le fun c y hc => ?_⟩
  by_cases e : c = bm
  · subst e; rw [Mm.upd_same] at hc ⊢; exact hc
  · rw [Mm.upd_ne e] at hc ⊢; exact hle2 _ _ hc
theorem name_not {k : Nat} (hk : k < 9) (h2 : k ≠ 2) : ((nameOf k).toList == [116, 119, 105, 99, 101]) = false := by
  rcases k with _ | _ | _ | _ | _ | _ | _ | _ | _ | k
  all_goals first | omega | kernel_rfl
/-- The chapter's example. -/
def exC (i : Nat) : Int := [2, 2, 0, 1, 0, 0, 0, 0, 0, 0, 2, 1, 1, 0].getD i 0
def exE : List PEnt := [(0, 0), (1, 0)]
def exP (_ : Nat) : List PCall := []
theorem zero_int : (Try.prog.info? 3).bind (·.zero) = some (.int .i64 0) := by kernel_rfl
theorem ex_twice : (varE exC 0 exE 2).length = 3 := by kernel_rfl
theorem built_ex (b : Nat) : Try.prog.built 29 [(0, .agg #[.int .i64 2, .int .i64 2, .int .i64 0, .int .i64 1, .int .i64 0, .int .i64 0, .int .i64 0, .int .i64 0, .int .i64 0, .int .i64 0, .int .i64 2, .int .i64 1, .int .i64 1, .int .i64 0]), (2, .slice (some ⟨b, 0, none⟩) 2 2)] = some (scrRow exC noP (.slice (some ⟨b, 0, none⟩) 2 2)) := by kernel_rfl
set_option maxHeartbeats 2000000 in
theorem livesAll_has {σ w : World} {M0 : Mm} (e : Value) (hs : RdS M0 noP e exP exE) {bs bl bm : Nat} (hbs : M0 bs = some (.cells (scrRow exC noP e) 29)) (hbl : M0 bl = some (.cells #[.int .i64 0] 3)) (hbm : M0 bm = none) (h : Has σ (M0.upd bm (.cells #[.int .i64 0] 3)) w) :
    Calls Try.prog 15 #[.func (.func 14) #[] #[.pointer (some ⟨bm, 0, none⟩)], .pointer (some ⟨bs, 0, none⟩), .pointer (some ⟨bl, 0, none⟩)] w fun r w' => (∃ u, r = .returned u) ∧ ∃ K' : Mm, M0.le K' ∧ Has σ (K'.upd bm (.cells #[.int .i64 3] 3)) w' := by
  refine (allBody_has 14 #[.pointer (some ⟨bm, 0, none⟩)] (fun k K => K.upd bm (.cells #[.int .i64 (if 3 ≤ k then 3 else 0)] 3)) (fun K => K bm = none) (fun _ => true) 9 exC noP e exP exE hs (by simp [exE]) (fun t _ => by simp [exP]) 0 hbs hbl
    (fun k K hz => Mm.le_upd' hz _) (fun k K M hz hle => upd_X hz hle) (fun k hk K w p' e' hz hle h hR => ?_) (by kernel_rfl) (by omega) (by omega) (fun _ _ => rfl) (fun h => absurd h (by omega)) (K0 := M0) hbm (Mm.le_refl _) h).mono fun r w' ⟨h1, K', hz, hle, hH⟩ => ⟨h1, K', hle, hH⟩
  by_cases h2 : k = 2
  · subst h2
    obtain ⟨A, cap, he⟩ := hR.ents.form
    subst he
    have hl := ex_twice
    have := lives1_twice h (scrRow exC p' (.slice A (varE exC 0 exE 2).length cap)) (scr_size _ _ _) (scr_ents _ _ _) (Mm.upd_same K bm _)
    refine this.mono fun r w' ⟨h1, h2⟩ => ⟨h1, K, hz, Mm.le_refl _, ?_⟩
    rw [hl, Mm.upd_upd] at h2
    exact h2
  · have := lives1_other h (scrRow exC p' e') (scr_size _ _ _) (nameOf k) (name_not hk h2) bm
    refine this.mono fun r w' ⟨h1, h3⟩ => ⟨h1, K, hz, Mm.le_refl _, ?_⟩
    have e3 : (if 3 ≤ k + 1 then (3 : Int) else 0) = if 3 ≤ k then 3 else 0 := by
      by_cases h4 : 3 ≤ k
      · rw [if_pos h4, if_pos (by omega)]
      · rw [if_neg h4, if_neg (by omega)]
    show Has σ (K.upd bm (.cells #[.int .i64 (if 3 ≤ k + 1 then 3 else 0)] 3)) w'
    rw [e3]
    exact h3
set_option maxHeartbeats 2000000 in
theorem lives_has {σ w : World} {M : Mm} (h : Has σ M w) : Calls Try.prog 6 #[] w fun r w' => r = .returned (.bool true) ∧ Has σ M w' := by
  have NM := Lib.hid (fun (w : World) (h : Has σ M w) => names_has h)
  have d0 : namesRow[0]? = some (.string ⟨#[112, 117, 114, 103, 101, 100]⟩) := rfl
  have d8 : namesRow[8]? = some (.string ⟨#[116, 117, 114, 110, 101, 100]⟩) := rfl
  have BX := Lib.hid built_ex
  have sz0 := scr_size (fun _ => 0) noP nilS
  have SZ := Lib.hid (fun e => scr_size exC noP e)
  have SA := Lib.hid (fun e => scr_all exC noP e)
  have SO := Lib.hid (fun (b : Nat) => scr_one exC noP (.slice (some ⟨b, 0, none⟩) 2 2) (fun _ _ => rfl) rfl)
  have HSV : Hid (∀ e, scrV exC noP e = .agg (scrRow exC noP e)) := fun _ => rfl
  have RX : Hid (∀ (M : Mm) (b : Nat), M b = some (.cells #[.int .i64 0, .int .i64 0, .int .i64 1, .int .i64 0] 43) → RdS M noP (.slice (some ⟨b, 0, none⟩) 2 2) exP exE) := fun M b hb => ⟨fun t ht => Rd.nil _ _ _, by
    refine ⟨rfl, _, _, rfl, by decide, fun _ => ⟨b, 0, _, _, _, rfl, hb, fun j u hu => ?_⟩⟩
    rcases j with _ | _ | _ | _ | j
    all_goals first | exact hu | (simp [exE, encE] at hu)⟩
  generalize namesRow = nrow at *
  have AL : Hid (∀ (M' : Mm) (w : World) (e : Value), Has σ M' w → Calls Try.prog 7 #[scrV exC noP e, .int .i64 0] w fun r w' => ∃ bs bl M2, r = .returned (.func (.func 15) #[] #[.pointer (some ⟨bs, 0, none⟩), .pointer (some ⟨bl, 0, none⟩)]) ∧ Has σ M2 w' ∧ M'.le M2 ∧ M2 bs = some (.cells (scrRow exC noP e) 29) ∧ M2 bl = some (.cells #[.int .i64 0] 3) ∧ M' bs = none ∧ M' bl = none) := fun M' w e h => all_has h exC noP e 0
  have LA : Hid (∀ (M' : Mm) (w : World) (e : Value) (bs bl bm : Nat), RdS M' noP e exP exE → M' bs = some (.cells (scrRow exC noP e) 29) → M' bl = some (.cells #[.int .i64 0] 3) → M' bm = none → Has σ (M'.upd bm (.cells #[.int .i64 0] 3)) w →
      Calls Try.prog 15 #[.func (.func 14) #[] #[.pointer (some ⟨bm, 0, none⟩)], .pointer (some ⟨bs, 0, none⟩), .pointer (some ⟨bl, 0, none⟩)] w fun r w' => (∃ u, r = .returned u) ∧ ∃ K' : Mm, M'.le K' ∧ Has σ (K'.upd bm (.cells #[.int .i64 3] 3)) w') := fun M' w e bs bl bm h1 h2 h3 h4 h => livesAll_has e h1 h2 h3 h4 h
  generalize hsr : (fun e => scrRow exC noP e) = sr at *
  have HSR : Hid (∀ e, scrRow exC noP e = sr e) := fun e => by rw [← hsr]
  clear hsr
  simp only [HSR.out, HSV.out] at BX SZ SA SO AL LA
  go_enter Try.func6, Try.ntmps6
  go_upto_region 5 with (first
    | (go_at_call 13; refine (NM.out _ h).mono ?_; clear h; rintro r w ⟨bq, M1, rfl, h, hle1, hnq, hbq⟩)
    | (with_reducible show wpList _ _ _ ({ dst := _, op := Op.load 9 _, type := _, pos := _, after := _, guard := _ } :: _) _ _; refine wpList_load1_has h rfl 9 _ rfl rfl hbq d0 Try.underlying9 rfl ?_)
    | (with_reducible show wpList _ _ _ ({ dst := _, op := Op.load 9 _, type := _, pos := _, after := _, guard := _ } :: _) _ _; refine wpList_load1_has h rfl 9 _ rfl rfl hbq d8 Try.underlying9 rfl ?_)
    | ((with_reducible show wpList _ _ _ ({ dst := _, op := Op.build 29 _, type := _, pos := _, after := _, guard := _ } :: _) _ _); refine wpList_build2 rfl 29 0 2 _ _ rfl rfl rfl (BX.out _) ?_; try simp only [Act.put, List.setIfInBounds_toArray, List.set_cons_zero, List.set_cons_succ])
    | ((with_reducible show wpList _ _ _ ({ dst := _, op := Op.alloc 29, type := _, pos := _, after := _, guard := _ } :: _) _ _); refine wpList_alloc_has (h.alloc _) rfl 29 rfl _ zero_scr ?_; have hne := h.fresh; generalize w.heap.size = be at hne ⊢; clear h; intro b2 w h hn2; try simp only [Act.put, List.setIfInBounds_toArray, List.set_cons_zero, List.set_cons_succ])
    | ((with_reducible show wpList _ _ _ ({ dst := _, op := Op.store 29 _ _, type := _, pos := _, after := _, guard := _ } :: _) _ _); refine wpList_storeAll_has (cells := (sr (.slice (some ⟨be, 0, none⟩) 2 2))) h rfl 29 _ _ rfl rfl rfl (Mm.upd_same _ _ _) rfl (sz0.trans (SZ.out _).symm) rfl (by rw [(SZ.out _)]; kernel_rfl) (SO.out be) ?_; clear h; intro w h))
  rw [Mm.upd_upd] at h
  have le2 := Mm.le_upd' hn2 (.cells (sr (.slice (some ⟨be, 0, none⟩) 2 2)) 29)
  have leE := Mm.le_upd' hne (.cells #[.int .i64 0, .int .i64 0, .int .i64 1, .int .i64 0] 43)
  have hb2 := Mm.upd_same (M1.upd be (.cells #[.int .i64 0, .int .i64 0, .int .i64 1, .int .i64 0] 43)) b2 (.cells (sr (.slice (some ⟨be, 0, none⟩) 2 2)) 29)
  have RX2 := RX.out _ be (le2 _ _ (Mm.upd_same M1 be (.cells #[.int .i64 0, .int .i64 0, .int .i64 1, .int .i64 0] 43)))
  have leA := Mm.le_trans hle1 (Mm.le_trans leE le2)
  generalize (M1.upd be (.cells #[.int .i64 0, .int .i64 0, .int .i64 1, .int .i64 0] 43)).upd b2 (.cells (sr (.slice (some ⟨be, 0, none⟩) 2 2)) 29) = M2 at *
  clear leE le2 hn2 hne hle1 hbq hnq
  have sa := SA.out (.slice (some ⟨be, 0, none⟩) 2 2)
  have sz := SZ.out (.slice (some ⟨be, 0, none⟩) 2 2)
  have ALk := Lib.hid (fun (w : World) (h : Has σ M2 w) => AL.out M2 w (.slice (some ⟨be, 0, none⟩) 2 2) h)
  have LAe := Lib.hid (fun (M' : Mm) (w : World) (bs bl bm : Nat) => LA.out M' w (.slice (some ⟨be, 0, none⟩) 2 2) bs bl bm)
  generalize sr (.slice (some ⟨be, 0, none⟩) 2 2) = row at *
  clear LA AL SA SZ SO BX
  have hnf : ∀ (bs bl : Nat) (w : World), (binOp .eql 34 (.func (.func 15) #[] #[.pointer (some ⟨bs, 0, none⟩), .pointer (some ⟨bl, 0, none⟩)]) .nilFunc).run Try.prog w = .ok (.bool false) w := fun bs bl w => by kernel_rfl
  go_upto_region 9 with (first
    | ((with_reducible show wpList _ _ _ ({ dst := _, op := Op.load 29 _, type := _, pos := _, after := _, guard := _ } :: _) _ _); refine wpList_agg_has h rfl 29 _ rfl rfl hb2 sa sz Try.underlying29 rfl (by kernel_rfl) ?_; try simp only [Act.put, List.setIfInBounds_toArray, List.set_cons_zero, List.set_cons_succ])
    | (go_at_call 7; refine (ALk.out _ h).mono ?_; clear h; rintro r w ⟨bs, bl, M3, rfl, h, hle3, hbs, hbl, _, _⟩)
    | ((with_reducible show wpList _ _ _ ({ dst := _, op := Op.alloc 3, type := _, pos := _, after := _, guard := _ } :: _) _ _); refine wpList_alloc_has h rfl 3 rfl _ zero_int ?_; clear h; intro bm w h hnm; try simp only [Act.put, List.setIfInBounds_toArray, List.set_cons_zero, List.set_cons_succ])
    | (with_reducible show wpList _ _ _ ({ dst := _, op := Op.store 3 _ _, type := _, pos := _, after := _, guard := _ } :: _) _ _; refine wpList_store1_has h rfl 3 _ _ rfl rfl rfl (Mm.upd_same _ _ _) (Nat.lt_succ_self 0) rfl (by kernel_rfl) ?_; clear h; intro w h))
  rw [Mm.upd_upd] at h
  replace h : Has σ (M3.upd bm (.cells #[.int .i64 0] 3)) w := h
  have LAk := Lib.hid (fun (w : World) => LAe.out M3 w bs bl bm (RX2.le hle3) hbs hbl hnm)
  have d3 : (#[.int .i64 3] : Array Value)[0]? = some (.int .i64 3) := rfl
  clear LAe RX RX2 hbs hbl hb2 ALk hnf
  go_wp2_with (first
    | (go_at_call 15; refine (LAk.out _ h).mono ?_; clear h; rintro r w ⟨⟨u, rfl⟩, K', hleK, h⟩; have hbm := Mm.upd_same K' bm (.cells #[.int .i64 3] 3))
    | (with_reducible show wpList _ _ _ ({ dst := _, op := Op.load 3 _, type := _, pos := _, after := _, guard := _ } :: _) _ _; refine wpList_load1_has h rfl 3 _ rfl rfl hbm d3 Try.underlying3 rfl ?_))
  go_ret
  exact ⟨rfl, h.le (Mm.le_upd (Mm.le_trans leA (Mm.le_trans hle3 hleK)) (Mm.none_of (Mm.le_trans leA hle3) hnm) _)⟩
end Go.Proofs.Ytlgnknaffnnkkaa
