/- A range over the warden's map; how many slots of a level are held. -/
import Derived.Test.YtlpkimpdeeiaaaaGreatMachE
import Derived.RowKitTokens
import Derived.Laws.IdiomRangeMap
namespace Go.Proofs.YtlpkimpdeeiaaaaGreat
section
open Go.RowKit
set_option linter.unusedVariables false
set_option linter.unusedSimpArgs false
set_option linter.unnecessarySimpa false
section
variable {σ w : World} {M : Mm} {it bm since c0 clock : Nat} {seen : Array Nat} {es : Array MapEntry}
theorem run_next_has (h : Has σ M w) (ty : TypeId) (hit : M it = some (.mapIter (some bm) since seen c0)) (hb : M bm = some (.map es clock)) (hold : ∀ x ∈ es.toList, x.born < since) (hsc : since ≤ c0) :
    ((leftOf es seen).size = 0 ∧ (Instr.next (.pointer (some ⟨it, 0, none⟩)) false ty).run Tryz.prog w = .ok (.tuple #[.bool false]) w) ∨
    ∃ e ∈ (leftOf es seen).toList, ∃ w1 : World, Has σ (M.upd it (.mapIter (some bm) since (seen.push e.born) clock)) w1 ∧ (Instr.next (.pointer (some ⟨it, 0, none⟩)) false ty).run Tryz.prog w = .ok (.tuple #[.bool true, e.key, e.val]) w1 := by
  have hwi := h.at_ _ _ hit
  have hwb := h.at_ _ _ hb
  simp only [Instr.next, getObj, Sem.run_bind, Sem.run, hwi, hwb, Result.andThen, next_test_false seen es since c0 hold hsc, Bool.false_eq_true, if_false]
  have hmem : ∀ x ∈ (Array.filter (fun e => !seen.contains e.born) es).toList, x.born < since := fun x hx => hold x (by simp at hx ⊢; exact hx.1)
  unfold leftOf
  generalize Array.filter (fun e => !seen.contains e.born) es = L at hmem ⊢
  have e1 : L.filter (fun x => decide (x.born < since)) = L := Array.filter_eq_self.2 (fun x hx => by simpa using hmem x (by simpa using hx))
  have e2 : L.filter (fun x => decide (x.born ≥ since)) = #[] := by
    rw [Array.filter_eq_empty_iff]
    intro x hx
    have := hmem x (by simpa using hx)
    simp
    omega
  simp only [e1, e2, Array.append_empty]
  by_cases h0 : L.size = 0
  · left
    have : L = #[] := Array.eq_empty_of_size_eq_zero h0
    subst this
    refine ⟨rfl, ?_⟩
    simp [choose, Sem.run, Question.forced]
  · right
    have hne : L.isEmpty = false := by simp [Array.isEmpty, h0]
    simp only [hne, Bool.false_eq_true, if_false, Array.empty_append, Array.size_map]
    have hch : ∃ (j : Nat) (w1 : World), j < L.size ∧ Has σ M w1 ∧ (choose (Question.mapNext L.size)).run Tryz.prog w = .ok j w1 := by
      by_cases hf : L.size ≤ 1
      · exact ⟨0, w, by omega, h, by simp [choose, Sem.run, Question.forced, hf]⟩
      · exact ⟨_, w.drew, Nat.mod_lt _ (by omega), h.drew, by
          simp only [choose, Sem.run, Question.forced, decide_eq_true_eq, hf, if_false, Question.cut]
          rfl⟩
    obtain ⟨j, w1, hj, h1, hrun⟩ := hch
    have hw1 := h1.at_ _ _ hit
    have hlt : it < w1.heap.size := lt_of_block hw1
    have fin : ∀ o : Obj, Has σ (M.upd it o) { w1 with heap := w1.heap.setIfInBounds it o } := fun o => h1.put ⟨rfl, rfl, rfl, by simp, fun k hk => by simp [Array.getElem?_setIfInBounds, Ne.symm hk]⟩ (by simp [hlt])
    refine ⟨L[j], by simp, _, fin _, ?_⟩
    have hset : ∀ (o' : Obj), (setObj it o').run Tryz.prog w1 = .ok () { w1 with heap := w1.heap.setIfInBounds it o' } := fun o' => by
      simp only [setObj, Sem.run]
      rw [hw1]
    simp only [hrun, Array.getElem?_map, Array.getElem?_eq_getElem hj, Option.map_some, Sem.run_bind, hset, Result.andThen]
    rfl
theorem run_entry_has (h : Has σ M w) {e : MapEntry} (hit : M it = some (.mapIter (some bm) since (seen.push e.born) clock)) (hb : M bm = some (.map es clock)) (he : e ∈ es.toList) (hn : (es.toList.map (·.born)).Nodup) :
    (Instr.entry (.pointer (some ⟨it, 0, none⟩))).run Tryz.prog w = .ok (.tuple #[e.key, e.val]) w := by
  have hwi := h.at_ _ _ hit
  have hwb := h.at_ _ _ hb
  have hf : es.find? (·.born == e.born) = some e := by rw [← Array.find?_toList]; exact find_born e es.toList hn he
  simp only [Instr.entry, getObj, Sem.run_bind, Sem.run, hwi, hwb, Result.andThen, Array.back?_push, bne_self_eq_false, Bool.false_eq_true, if_false, hf]
  rfl
theorem run_range_has (h : Has σ M w) (hb : M bm = some (.map es clock)) : (Instr.range 106 (.map (some bm))).run Tryz.prog w = .ok (.pointer (some ⟨w.heap.size, 0, none⟩)) (w.alloc (.mapIter (some bm) clock #[] clock)) :=
  run_range_map w 106 _ _ bm es clock Tryz.underlying106 (h.at_ _ _ hb)
theorem iterSeen_has (h : Has σ M w) {a : Option Nat} {b c : Nat} (hit : M it = some (.mapIter a b seen c)) : w.iterSeen it = seen := by
  unfold World.iterSeen
  rw [h.at_ _ _ hit]
end
/-- How many entries of a level have been handed out. -/
def cntE (l : Int) (seen : Array Nat) : List Ent → Nat
  | [] => 0
  | x :: r => (if seen.contains x.born = true ∧ x.l = l then 1 else 0) + cntE l seen r
theorem cntE_none (l : Int) : ∀ es : List Ent, cntE l #[] es = 0
  | [] => rfl
  | x :: r => by
    have : (#[] : Array Nat).contains x.born = false := by simp
    simp only [cntE, this, cntE_none l r]
    rfl
theorem cntE_other (l : Int) (seen : Array Nat) (b : Nat) : ∀ es : List Ent, b ∉ es.map (·.born) → cntE l (seen.push b) es = cntE l seen es
  | [], _ => rfl
  | x :: r, h => by
    have hx : (x.born == b) = false := by
      cases hc : x.born == b with
      | false => rfl
      | true => exact absurd (List.mem_cons.2 (Or.inl (beq_iff_eq.1 hc).symm)) h
    simp only [cntE, contains_push, hx, Bool.or_false, cntE_other l seen b r (fun e => h (List.mem_cons.2 (Or.inr e)))]
theorem cntE_push (l : Int) (seen : Array Nat) (e : Ent) (hs : seen.contains e.born = false) : ∀ es : List Ent, (es.map (·.born)).Nodup → e ∈ es → cntE l (seen.push e.born) es = cntE l seen es + (if e.l = l then 1 else 0)
  | x :: r, hn, he => by
    have hn' : x.born ∉ r.map (·.born) ∧ (r.map (·.born)).Nodup := List.nodup_cons.1 hn
    rcases List.mem_cons.1 he with rfl | h
    · simp only [cntE, contains_push, hs, beq_self_eq_true, Bool.or_true, true_and, Bool.false_eq_true, false_and, if_false, cntE_other l seen e.born r hn'.1]
      omega
    · have hx : (x.born == e.born) = false := by
        cases hc : x.born == e.born with
        | false => rfl
        | true => exact absurd (by rw [beq_iff_eq.1 hc]; exact List.mem_map.2 ⟨e, h, rfl⟩) hn'.1
      simp only [cntE, contains_push, hx, Bool.or_false, cntE_push l seen e hs r hn'.2 h]
      omega
theorem cntE_le (l : Int) (seen : Array Nat) : ∀ es : List Ent, cntE l seen es ≤ es.length
  | [] => Nat.le_refl _
  | x :: r => by
    have := cntE_le l seen r
    simp only [cntE, List.length_cons]
    split <;> omega
/-- How many entries of a level there are. -/
def allE (l : Int) (es : List Ent) : Nat := (es.filter fun x => x.l == l).length
theorem cntE_all (l : Int) (seen : Array Nat) : ∀ es : List Ent, (∀ x ∈ es, seen.contains x.born = true) → cntE l seen es = allE l es
  | [], _ => rfl
  | x :: r, h => by
    have ih := cntE_all l seen r fun y hy => h y (List.mem_cons.2 (Or.inr hy))
    unfold allE at ih ⊢
    simp only [cntE, h x (List.mem_cons.2 (Or.inl rfl)), true_and, List.filter_cons, ih]
    by_cases e : x.l = l
    · simp [e]; omega
    · simp [e]
theorem zspot : (Tryz.prog.info? 114).bind (·.zero) = some (.agg #[.int .i64 0, .int .i64 0]) := by kernel_rfl
theorem left_mem {es : List Ent} {seen : Array Nat} {e : MapEntry} (h : e ∈ (leftOf (es.map Ent.e).toArray seen).toList) : ∃ x ∈ es, e = x.e ∧ seen.contains x.born = false := by
  obtain ⟨h1, h2⟩ := mem_left h
  simp only [List.mem_map] at h1
  obtain ⟨x, hx, rfl⟩ := h1
  exact ⟨x, hx, rfl, h2⟩
set_option maxHeartbeats 2000000 in
set_option maxRecDepth 20000 in
theorem wardHeld_eq {σ w : World} {M : Mm} {p : Nat} {s : WardS} (h : Has σ M w) (hM : IsWard M p s) (l : Int) (hn : (s.held.map (·.born)).Nodup) (hold : ∀ x ∈ s.held, x.born < s.hclk) (hlen : s.held.length ≤ 1000) :
    Calls Tryz.prog 64 #[.pointer (some ⟨p, 0, none⟩), .int .i64 l] w fun r w' => r = .returned (.int .i64 (allE l s.held : Nat)) ∧ Has σ M w' := by
  have hh := hM.held
  have c2 : w.cell? ⟨p, 2, none⟩ = some (.map (some s.hb)) := h.cell hM.obj 2
  unfold mapRow at hh
  generalize s.held = es at *
  generalize s.hclk = clock at *
  have HN := Lib.hid hn
  have HO := Lib.hid hold
  have HL := Lib.hid hlen
  have RR := run_range_has h hh
  clear hM hn hold hlen
  go_enter Tryz.func64, Tryz.ntmps64
  go_upto_region 5 with (fail)
  clear RR c2
  obtain ⟨M1, hbx, hle, hit, hnit⟩ := h.box (.mapIter (some s.hb) clock #[] clock)
  generalize w.alloc _ = wx at hbx ⊢
  generalize w.heap.size = it at hit hnit ⊢
  clear h
  try clear w
  have h := hbx
  clear hbx
  obtain ⟨w, rfl⟩ : ∃ x : World, x = wx := ⟨_, rfl⟩
  have hb1 := hle _ _ hh
  go_loopw [5] (fun n wr => ∃ (M' : Mm) (seen : Array Nat), Has σ M' wr ∧ M.le M' ∧ M' it = some (.mapIter (some s.hb) clock seen clock) ∧ M' s.hb = some (.map (es.map Ent.e).toArray clock) ∧ n = .int .i64 (cntE l seen es : Nat)) (fun _ w' => (leftOf (es.map Ent.e).toArray (w'.iterSeen it)).size)
  case atStart => exact ⟨M1, #[], h, hle, hit, hb1, by rw [cntE_none]; rfl⟩
  case round =>
    clear h w hit hb1 hle M1 hh
    obtain ⟨w, rfl⟩ : ∃ x : World, x = wr := ⟨_, rfl⟩
    obtain ⟨M', seen, h, hle, hit, hb, rfl⟩ := hrel
    have IS := Lib.hid (iterSeen_has h hit)
    have law := fun ty => run_next_has h ty hit hb (fun x hx => by
      simp only [List.mem_map] at hx
      obtain ⟨y, hy, rfl⟩ := hx
      exact HO.out y hy) (Nat.le_refl _)
    have cle := cntE_le l seen es
    have hl2 := HL.out
    rcases law 0 with ⟨h0, hrun⟩ | ⟨e, he, w1, h1, hrun⟩
    · have hnx : ∀ ty, (Instr.next (.pointer (some ⟨it, 0, none⟩)) false ty).run Tryz.prog w = _ := fun _ => hrun
      have HC := Lib.hid (cntE_all l seen es fun x hx => all_seen _ _ h0 x.e (by simp only [List.mem_map]; exact ⟨x, hx, rfl⟩))
      clear law h0 hrun hb hit cle hl2
      go_wp2
      go_ret
      exact ⟨by rw [HC.out]; rfl, h.le hle⟩
    · obtain ⟨x, hx, rfl, hs⟩ := left_mem he
      have hnx : ∀ ty, (Instr.next (.pointer (some ⟨it, 0, none⟩)) false ty).run Tryz.prog w = .ok (.tuple #[.bool true, .agg #[.int .i64 x.l, .int .i64 x.s], .int .i64 x.v]) w1 := fun _ => hrun
      have SH := Lib.hid (left_shrinks _ _ _ he)
      have hit1 := Mm.upd_same M' it (.mapIter (some s.hb) clock (seen.push x.e.born) clock)
      have hne : s.hb ≠ it := fun e => by rw [e, hit] at hb; cases hb
      have hb1 : (M'.upd it (.mapIter (some s.hb) clock (seen.push x.e.born) clock)) s.hb = some (.map (es.map Ent.e).toArray clock) := (Mm.upd_ne hne).trans hb
      have hen : (Instr.entry (.pointer (some ⟨it, 0, none⟩))).run Tryz.prog w1 = .ok (.tuple #[.agg #[.int .i64 x.l, .int .i64 x.s], .int .i64 x.v]) w1 := run_entry_has h1 hit1 hb1 (by simp only [List.mem_map]; exact ⟨x, hx, rfl⟩) (by simpa [List.map_map, Function.comp_def, Ent.e] using HN.out)
      have CP := Lib.hid (cntE_push l seen x hs es HN.out hx)
      have hle1 : M.le (M'.upd it (.mapIter (some s.hb) clock (seen.push x.e.born) clock)) := Mm.le_upd hle hnit _
      clear law hrun he hb hs hit hle
      generalize M'.upd it _ = M2 at h1 hit1 hb1 hle1
      go_upto_region 6 with (fail)
      clear hnx h
      have h := h1
      clear h1
      go_upto_region 7 with (first
        | ((with_reducible show wpList _ _ _ ({ dst := _, op := Op.alloc 114, type := _, pos := _, after := _, guard := _ } :: _) _ _); refine wpList_alloc_has h rfl 114 rfl _ zspot ?_; clear h; intro bx w h hnx; try simp only [Act.put, List.setIfInBounds_toArray, List.set_cons_zero, List.set_cons_succ])
        | ((with_reducible show wpList _ _ _ ({ dst := _, op := Op.store 114 _ _, type := _, pos := _, after := _, guard := _ } :: _) _ _); refine wpList_storeAll_has (cells := #[.int .i64 x.l, .int .i64 x.s]) h rfl 114 _ _ rfl rfl rfl (Mm.upd_same _ _ _) rfl rfl rfl (by kernel_rfl) rfl ?_; clear h; intro w h))
      rw [Mm.upd_upd] at h
      have hit2 := Mm.upd_of (o := .cells #[.int .i64 x.l, .int .i64 x.s] 114) hnx hit1
      have hb2 := Mm.upd_of (o := .cells #[.int .i64 x.l, .int .i64 x.s] 114) hnx hb1
      have hbx := Mm.upd_same M2 bx (.cells #[.int .i64 x.l, .int .i64 x.s] 114)
      have hle2 : M.le (M2.upd bx (.cells #[.int .i64 x.l, .int .i64 x.s] 114)) := Mm.le_trans hle1 (Mm.le_upd' hnx _)
      clear hen hit1 hb1 hle1 hnx
      generalize M2.upd bx _ = M3 at h hit2 hb2 hbx hle2
      have d0 : (#[.int .i64 x.l, .int .i64 x.s] : Array Value)[0]? = some (.int .i64 x.l) := rfl
      by_cases hxl : x.l = l
      · rw [if_pos hxl] at CP
        replace d0 : (#[.int .i64 x.l, .int .i64 x.s] : Array Value)[0]? = some (.int .i64 l) := by rw [hxl]; rfl
        clear hxl
        go_wp2_with (first
          | (with_reducible show wpList _ _ _ ({ dst := _, op := Op.load 3 _, type := _, pos := _, after := _, guard := _ } :: _) _ _; refine wpList_load1_has h rfl 3 _ rfl rfl hbx d0 Tryz.underlying3 rfl ?_))
        go_roundw
        case rel => exact ⟨M3, seen.push x.e.born, h, hle2, hit2, hb2, by rw [show cntE l (seen.push x.e.born) es = cntE l seen es + 1 from CP.out]; go_num⟩
        case measure => rw [iterSeen_has h hit2, IS.out]; exact SH.out
      · rw [if_neg hxl] at CP
        have hxb : (x.l == l) = false := beq_eq_false_iff_ne.2 hxl
        clear hxl
        go_wp2_with (first
          | (with_reducible show wpList _ _ _ ({ dst := _, op := Op.load 3 _, type := _, pos := _, after := _, guard := _ } :: _) _ _; refine wpList_load1_has h rfl 3 _ rfl rfl hbx d0 Tryz.underlying3 rfl ?_))
        go_roundw
        case rel => exact ⟨M3, seen.push x.e.born, h, hle2, hit2, hb2, by rw [show cntE l (seen.push x.e.born) es = cntE l seen es + 0 from CP.out]; rfl⟩
        case measure => rw [iterSeen_has h hit2, IS.out]; exact SH.out
end
end Go.Proofs.YtlpkimpdeeiaaaaGreat
