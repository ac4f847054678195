/- Walks of layer 20 (thread): Back. -/
import Derived.Test.YtjeeldacnllipaaGreatThrB
namespace Go.Proofs.YtjeeldacnllipaaGreat
open Go.RowKit
set_option linter.unusedVariables false
set_option linter.unusedSimpArgs false
set_option linter.unnecessarySimpa false
section
variable {P : Program} {ops : Array Oper} {rest : List Oper} {op : Oper} {a : Act} {σ w : World} {M : Mm} {Q : Exit → Act → World → Prop}
/-- A struct or an array is stored into a part of a block. -/
theorem wpList_storePart_has (h : Has σ M w) (hg : op.guard = none) (t : TypeId) (x y : Operand) (ho : op.op = .store t x y) (hdst : op.dst = none) {b i : Nat} (hx : a.eval x = .pointer (some ⟨b, i, none⟩))
    {cs cells : Array Value} {pre old post : List Value} {e : TypeId} (hb : M b = some (.cells cs e (0, 0))) (hcs : cs.toList = pre ++ old ++ post) (hpre : pre.length = i) (hy : a.eval y = .agg cells) {n : Nat} (hs : old.length = n) (hn : cells.size = n) (hi : (P.info? t).map (·.size) = some n) (h1 : cells.toList.all (·.oneCell') = true)
    (hk : ∀ w', Has σ (M.upd b (.cells (pre ++ cells.toList ++ post).toArray e)) w' → wpList P ops Q rest a w') : wpList P ops Q (op :: rest) a w := by
  have hB : Blk w b cs e := h.at_ b _ hb
  have hB2 : Blk w b (pre ++ old ++ post).toArray e := by rw [← hcs]; exact hB
  have hlen : cs.size = pre.length + old.length + post.length := by rw [← Array.length_toList, hcs]; simp; omega
  refine wpList_store_mid hg t x y ho b i cells hx hy ?_ (by rw [hi, hn]) (by rw [Array.all_eq_true_iff_forall_mem]; exact fun x hx => List.all_eq_true.1 h1 x (by simpa using hx)) ?_
  · intro j hj
    exact ⟨by rw [hB.cell, Array.getElem?_eq_getElem (by omega)]; rfl, hB.free _⟩
  · rw [hdst]
    have hx := blk_setCells b e cells.toList i w pre old post hpre (by rw [hs, Array.length_toList, hn]) hB2
    exact hk _ (h.put (only_setCells b _ i w) hx)
end
def ThrS.back (x : ThrS) (us : List Int) : ThrS := { x with told := fun i => us.getD i 0, frames := x.frames.dropLast }
def words0 : Array Value := #[.int .u64 0, .int .u64 0, .int .u64 0, .int .u64 0, .int .u64 0, .int .u64 0, .int .u64 0, .int .u64 0]
theorem zwords : (Tryz.prog.info? 43).bind (·.zero) = some (.agg words0) := by kernel_rfl
def words (us : List Int) : Array Value := #[.int .u64 (us.getD 0 0), .int .u64 (us.getD 1 0), .int .u64 (us.getD 2 0), .int .u64 (us.getD 3 0), .int .u64 (us.getD 4 0), .int .u64 (us.getD 5 0), .int .u64 (us.getD 6 0), .int .u64 (us.getD 7 0)]
theorem back_cells (us : List Int) (hm : us.length ≤ 8) : (words0.toList.take 0 ++ u64s us ++ words0.toList.drop (0 + us.length)).toArray = words us := by
  have e1 : words0.toList = (List.range 8).map fun i => .int .u64 0 := rfl
  have e2 : (words us).toList = (List.range 8).map fun i => .int .u64 (us.getD i 0) := rfl
  apply Array.toList_inj.1
  rw [e2, e1]
  apply List.ext_getElem?
  intro i
  simp only [List.take_zero, List.nil_append, Nat.zero_add]
  by_cases hi : i < us.length
  · rw [List.getElem?_append_left (by simpa [u64s] using hi)]
    simp [u64s, hi, show i < 8 by omega]
  · rw [List.getElem?_append_right (by simp [u64s]; omega)]
    simp only [u64s, List.length_map, List.getElem?_drop, List.getElem?_map]
    rw [show us.length + (i - us.length) = i by omega]
    by_cases h16 : i < 8
    · simp [h16, List.getElem?_eq_none (show us.length ≤ i by omega)]
    · simp [h16]
/-- What is known of a thread behind Back. -/
theorem Thr.backed {M : Mm} {lab : Nat → Nat} {t p b g c : Nat} {x : ThrS} {hv : Value} {fbs : List Nat} (us : List Int) (hT : Thr M lab t p x (.slice (some ⟨g, 0, none⟩) (fbs.length + 1) c) hv (fbs ++ [b])) :
    Kp (OfThr t) M lab (M.upd p (.cells ((x.back us).row (.slice (some ⟨g, 0, none⟩) fbs.length c) hv) 46)) lab ∧ Thr (M.upd p (.cells ((x.back us).row (.slice (some ⟨g, 0, none⟩) fbs.length c) hv) 46)) lab t p (x.back us) (.slice (some ⟨g, 0, none⟩) fbs.length c) hv fbs := by
  have k3 : Kp (fun j => j = 10 + 4 * t) M lab (M.upd p (.cells ((x.back us).row (.slice (some ⟨g, 0, none⟩) fbs.length c) hv) 46)) lab := Kp.upd hT.mark _
  have hfl := hT.flen
  simp only [List.length_append, List.length_singleton] at hfl
  have hr := hT.frow
  refine ⟨k3.mono fun k e => by subst e; exact ⟨by omega, by omega⟩, Mm.upd_same _ _ _, hT.mark, ?_, ?_, ?_, ?_, hT.hrow.keep k3 (by omega)⟩
  · refine Row.keep ?_ k3 (by omega)
    obtain ⟨hl, ⟨hv, h0⟩ | ⟨g', cap, cur, hv, hg, hh, r1, r2, r3, r4⟩⟩ := hr
    · simp at hv
    · simp only [Value.slice.injEq, Option.some.injEq, Addr.mk.injEq] at hv
      obtain ⟨⟨rfl, _, _⟩, _, rfl⟩ := hv
      refine ⟨by simp [ptrs], .inr ⟨g, c, cur, rfl, hg, hh, by simp at r1; omega, r2, r3, ?_⟩⟩
      simp only [List.length_append, List.length_singleton, Nat.mul_one] at r4 ⊢
      have r5 := congrArg (List.take fbs.length) r4
      rw [List.take_take, Nat.min_eq_left (by omega)] at r5
      rw [r5]
      simp [ptrs]
  · show fbs.length = x.frames.dropLast.length
    simp; omega
  · have := hT.nodup
    rw [List.nodup_append] at this
    exact this.1
  · intro i b' f hb hf
    have hf2 : x.frames.dropLast[i]? = some f := hf
    have hi : i < fbs.length := by
      rcases Nat.lt_or_ge i fbs.length with h | h
      · exact h
      · rw [List.getElem?_eq_none h] at hb; cases hb
    have h1 : (fbs ++ [b])[i]? = some b' := by rw [List.getElem?_append_left hi]; exact hb
    have h2 : x.frames[i]? = some f := by
      rw [List.getElem?_dropLast] at hf2
      split at hf2
      · exact hf2
      · cases hf2
    obtain ⟨a1, a2⟩ := hT.frame _ _ _ h1 h2
    exact k3.get a1 a2 (by omega)
set_option maxHeartbeats 2000000 in
theorem thrBack_eq {σ w : World} {M : Mm} {lab : Nat → Nat} {t p b : Nat} {x : ThrS} {fv hv : Value} {fbs : List Nat} (h : Has σ M w) (hT : Thr M lab t p x fv hv (fbs ++ [b])) {rv : Value} {us : List Int} (hr : Rd (M.drop p) 1 rv us.length (u64s us)) (hm : us.length ≤ 8) (hn : fbs.length < 1000000) :
    Calls Tryz.prog 93 #[.pointer (some ⟨p, 0, none⟩), rv] w fun r w' => r = .returned (.tuple #[]) ∧ ∃ M', Has σ M' w' ∧ Kp (OfThr t) M lab M' lab ∧ IsThr M' lab t p (x.back us) := by
  have hl : (fbs ++ [b]).length = fbs.length + 1 := by simp
  obtain ⟨g, c, rfl⟩ := Own.pos hT.frow (by rw [hl]; omega)
  rw [hl] at hT
  have hcap : fbs.length + 1 ≤ c := by
    obtain ⟨_, ⟨hv, _⟩ | ⟨g', cap, cur, hv, hg, hh, r1, r2, r3, r4⟩⟩ := hT.frow
    · cases hv
    · simp only [Value.slice.injEq, Option.some.injEq, Addr.mk.injEq] at hv
      obtain ⟨⟨rfl, _, _⟩, _, rfl⟩ := hv
      rw [hl] at r1; exact r1
  have hB := Lib.hid (hT.backed us)
  have hp := hT.obj
  have e11 : (x.row (.slice (some ⟨g, 0, none⟩) (fbs.length + 1) c) hv)[11]? = some (.slice (some ⟨g, 0, none⟩) (fbs.length + 1) c) := rfl
  have l11 : 11 < (x.row (.slice (some ⟨g, 0, none⟩) (fbs.length + 1) c) hv).size := show 11 < 13 by omega
  have EQ : Hid (∀ v, (x.row (.slice (some ⟨g, 0, none⟩) (fbs.length + 1) c) hv).setIfInBounds 11 v = x.row v hv) := Lib.hid fun v => rfl
  have hr2 : Rd (M.upd p (.cells (x.row (.slice (some ⟨g, 0, none⟩) fbs.length c) hv) 46)) 1 rv us.length (u64s us) := hr.le (Mm.drop_upd (Mm.drop_le M p) _)
  have EC := Lib.hid (back_cells us hm)
  have ER : Hid ((x.row (.slice (some ⟨g, 0, none⟩) fbs.length c) hv).toList = [] ++ (x.row (.slice (some ⟨g, 0, none⟩) fbs.length c) hv).toList.take 8 ++ (x.row (.slice (some ⟨g, 0, none⟩) fbs.length c) hv).toList.drop 8) := Lib.hid rfl
  have EW : Hid (([] ++ (words us).toList ++ (x.row (.slice (some ⟨g, 0, none⟩) fbs.length c) hv).toList.drop 8).toArray = (x.back us).row (.slice (some ⟨g, 0, none⟩) fbs.length c) hv) := Lib.hid rfl
  have E8 : Hid (((x.row (.slice (some ⟨g, 0, none⟩) fbs.length c) hv).toList.take 8).length = 8) := Lib.hid rfl
  have w8 : (words us).extract 0 (0 + 8) = words us := rfl
  have z8 : (words us).size = 8 := rfl
  have o8 : (words us).toList.all (·.oneCell') = true := rfl
  clear hT hr
  generalize hnn : fbs.length = n at *
  have g1 : IntKind.i64.wrap (((n + 1 : Nat) : Int) - 1) = (n : Nat) := by rw [show ((n + 1 : Nat) : Int) - 1 = (n : Int) by omega]; exact IntWalk.i64_in _ (by omega)
  have g2 : max (0 : Int) (n : Nat) = (n : Nat) := by omega
  have hfit : 0 + us.length ≤ words0.size := show 0 + us.length ≤ 8 by omega
  go_enter Tryz.func93, Tryz.ntmps93
  go_upto_region 1 with (fail)
  refine wp_region_head (Has σ M) 15 (by kernel_rfl) (by kernel_rfl) (fun _ _ _ _ _ h => h) h.drew ?_
  clear h
  simp only [List.take_succ_cons, List.take_zero, List.drop_succ_cons, List.drop_zero]
  repeat (first
    | go_big_quiet_skip
    | (go_big_quiet_want; first
      | (refine quiet_load_has 44 _ rfl rfl hp e11 Tryz.underlying44 rfl ?_; simp only [Act.put, List.setIfInBounds_toArray, List.set_cons_zero, List.set_cons_succ]; go_big_quiet_on)
      | (go_big_quiet_op; first | go_big_quiet_on | go_big_quiet_call (first | with_reducible exact fun _ => rfl))))
  refine wpQuiet_nil ?_
  try clear w
  intro w h
  go_upto_region 2 with (first
    | (with_reducible show wpList _ _ _ ({ dst := _, op := Op.store 44 _ _, type := _, pos := _, after := _, guard := _ } :: _) _ _; refine wpList_store1_has h rfl 44 _ _ rfl rfl rfl hp l11 rfl (by kernel_rfl) ?_; clear h; intro w h))
  have h0 : Has σ (M.upd p (.cells (x.row (.slice (some ⟨g, 0, none⟩) n c) hv) 46)) w := by have := h; rw [EQ.out] at this; exact this
  clear h g1 g2 e11 l11
  have h := h0
  clear h0
  have hp2 := Mm.upd_same M p (.cells (x.row (.slice (some ⟨g, 0, none⟩) n c) hv) 46)
  have UU : Hid (∀ o, (M.upd p (.cells (x.row (.slice (some ⟨g, 0, none⟩) n c) hv) 46)).upd p o = M.upd p o) := Lib.hid fun o => Mm.upd_upd _ _ _ _
  generalize M.upd p (.cells (x.row (.slice (some ⟨g, 0, none⟩) n c) hv) 46) = M1 at h hr2 hp2 UU
  go_upto_region 3 with (first
    | ((with_reducible show wpList _ _ _ ({ dst := _, op := Op.alloc 43, type := _, pos := _, after := _, guard := _ } :: _) _ _); refine wpList_alloc_has h rfl 43 rfl _ zwords ?_; clear h; intro bw w h hnw; try simp only [Act.put, List.setIfInBounds_toArray, List.set_cons_zero, List.set_cons_succ]))
  have hbw := Mm.upd_same M1 bw (.cells words0 43)
  have h1 : Has σ (M1.upd bw (.cells words0 43)) w := h
  have hr3 := hr2.le (Mm.le_upd' hnw (.cells words0 43))
  have VV : Hid (∀ o, (M1.upd bw (.cells words0 43)).upd bw o = M1.upd bw o) := Lib.hid fun o => Mm.upd_upd _ _ _ _
  clear h hr2
  have h := h1
  clear h1
  generalize M1.upd bw (.cells words0 43) = M2 at h hr3 hbw VV
  go_upto_region 4 with (first
    | ((with_reducible show wpList _ _ _ ({ dst := _, op := Op.call { callee := .builtin .copy, args := _, argTypes := _ }, type := _, pos := _, after := _, guard := _ } :: _) _ _); refine wpList_copy_in h rfl _ _ 35 35 rfl rfl rfl hr3 Tryz.underlying35 info1_u64' hbw hm hfit (u64s_one us) ?_; clear h; intro w h))
  rw [VV.out, EC.out] at h
  have hbw2 := Mm.upd_same M1 bw (.cells (words us) 43)
  have hp3 := Mm.upd_of (o := .cells (words us) 43) hnw hp2
  have LE : Hid (∀ o, (M.upd p o).le ((M1.upd bw (.cells (words us) 43)).upd p o)) := Lib.hid fun o => by
    rw [← UU.out o]
    exact Mm.upd_mono (Mm.le_upd' hnw _) p o
  clear hr3 hbw VV EC
  generalize words us = wus at h hbw2 hp3 EW w8 z8 o8 LE
  generalize M1.upd bw _ = M3 at h hbw2 hp3 LE
  go_wp2_with (first
    | ((with_reducible show wpList _ _ _ ({ dst := _, op := Op.load 43 _, type := _, pos := _, after := _, guard := _ } :: _) _ _); refine wpList_agg_has h rfl 43 _ rfl rfl hbw2 w8 z8 Tryz.underlying43 rfl (by kernel_rfl) ?_; try simp only [Act.put, List.setIfInBounds_toArray, List.set_cons_zero, List.set_cons_succ])
    | ((with_reducible show wpList _ _ _ ({ dst := _, op := Op.store 43 _ _, type := _, pos := _, after := _, guard := _ } :: _) _ _); refine wpList_storePart_has h rfl 43 _ _ rfl rfl rfl hp3 ER.out rfl rfl E8.out z8 (by kernel_rfl) o8 ?_; clear h; intro w h))
  go_end0
  have h2 : Has σ (M3.upd p (.cells ([] ++ wus.toList ++ (x.row (.slice (some ⟨g, 0, none⟩) n c) hv).toList.drop 8).toArray 46)) w := h
  rw [EW.out] at h2
  exact ⟨rfl, _, h2.le (LE.out _), hB.out.1, _, _, _, hB.out.2⟩
end Go.Proofs.YtjeeldacnllipaaGreat
