/- Walks of layer 20 (thread): Back. -/
import Derived.Test.YtlpkimpdeeiaaaaGreatThrB
namespace Go.Proofs.YtlpkimpdeeiaaaaGreat
open Go.RowKit
set_option linter.unusedVariables false
set_option linter.unusedSimpArgs false
set_option linter.unnecessarySimpa false
section
variable {P : Program} {ops : Array Oper} {rest : List Oper} {op : Oper} {a : Act} {σ w : World} {M : Mm} {Q : Exit → Act → World → Prop}
/-- A struct or an array is stored into a part of a block. -/
theorem wpList_storePart_has (h : Has σ M w) (hg : op.guard = none) (t : TypeId) (x y : Operand) (ho : op.op = .store t x y) (hdst : op.dst = none) {b i : Nat} (hx : a.eval x = .pointer (some ⟨b, i, none⟩))
    {cs cells : Array Value} {pre old post : List Value} {e : TypeId} (hb : M b = some (.cells cs e (0, 0))) (hcs : cs.toList = pre ++ old ++ post) (hpre : pre.length = i) (hy : a.eval y = .agg cells) {n : Nat} (hs : old.length = n) (hn : cells.size = n) (hi : (P.info? t).map (·.size) = some n) (h1 : cells.toList.all (·.oneCell') = true)
    (hk : ∀ w', Has σ (M.upd b (.cells (pre ++ cells.toList ++ post).toArray e)) w' → wpList P ops Q rest a w') : wpList P ops Q (op :: rest) a w := by
  have hB : Blk w b cs e := h.at_ b _ hb
  have hB2 : Blk w b (pre ++ old ++ post).toArray e := by rw [← hcs]; exact hB
  have hlen : cs.size = pre.length + old.length + post.length := by rw [← Array.length_toList, hcs]; simp; omega
  refine wpList_store_mid hg t x y ho b i cells hx hy ?_ (by rw [hi, hn]) (by rw [Array.all_eq_true_iff_forall_mem]; exact fun x hx => List.all_eq_true.1 h1 x (by simpa using hx)) ?_
  · intro j hj
    exact ⟨by rw [hB.cell, Array.getElem?_eq_getElem (by omega)]; rfl, hB.free _⟩
  · rw [hdst]
    have hx := blk_setCells b e cells.toList i w pre old post hpre (by rw [hs, Array.length_toList, hn]) hB2
    exact hk _ (h.put (only_setCells b _ i w) hx)
end
def ThrS.back (x : ThrS) (us : List Int) : ThrS := { x with told := fun i => us.getD i 0, frames := x.frames.dropLast }
def words0 : Array Value := #[.int .u64 0, .int .u64 0, .int .u64 0, .int .u64 0, .int .u64 0, .int .u64 0, .int .u64 0, .int .u64 0]
theorem zwords : (Tryz.prog.info? 109).bind (·.zero) = some (.agg words0) := by kernel_rfl
def words (us : List Int) : Array Value := #[.int .u64 (us.getD 0 0), .int .u64 (us.getD 1 0), .int .u64 (us.getD 2 0), .int .u64 (us.getD 3 0), .int .u64 (us.getD 4 0), .int .u64 (us.getD 5 0), .int .u64 (us.getD 6 0), .int .u64 (us.getD 7 0)]
theorem back_cells (us : List Int) (hm : us.length ≤ 8) : (words0.toList.take 0 ++ u64s us ++ words0.toList.drop (0 + us.length)).toArray = words us := by
  have e1 : words0.toList = (List.range 8).map fun i => .int .u64 0 := rfl
  have e2 : (words us).toList = (List.range 8).map fun i => .int .u64 (us.getD i 0) := rfl
  apply Array.toList_inj.1
  rw [e2, e1]
  apply List.ext_getElem?
  intro i
  simp only [List.take_zero, List.nil_append, Nat.zero_add]
  by_cases hi : i < us.length
  · rw [List.getElem?_append_left (by simpa [u64s] using hi)]
    simp [u64s, hi, show i < 8 by omega]
  · rw [List.getElem?_append_right (by simp [u64s]; omega)]
    simp only [u64s, List.length_map, List.getElem?_drop, List.getElem?_map]
    rw [show us.length + (i - us.length) = i by omega]
    by_cases h16 : i < 8
    · simp [h16, List.getElem?_eq_none (show us.length ≤ i by omega)]
    · simp [h16]
/-- What is known of a thread behind Back. -/
theorem Thr.backed {M : Mm} {lab : Nat → Nat} {t p b g c : Nat} {x : ThrS} {hv : Value} {fbs : List Nat} (us : List Int) (hT : Thr M lab t p x (.slice (some ⟨g, 0, none⟩) (fbs.length + 1) c) hv (fbs ++ [b])) :
    Kp (OfThr t) M lab (M.upd p (.cells ((x.back us).row (.slice (some ⟨g, 0, none⟩) fbs.length c) hv) 112)) lab ∧ Thr (M.upd p (.cells ((x.back us).row (.slice (some ⟨g, 0, none⟩) fbs.length c) hv) 112)) lab t p (x.back us) (.slice (some ⟨g, 0, none⟩) fbs.length c) hv fbs := by
  have k3 : Kp (fun j => j = 10 + 4 * t) M lab (M.upd p (.cells ((x.back us).row (.slice (some ⟨g, 0, none⟩) fbs.length c) hv) 112)) lab := Kp.upd hT.mark _
  have hfl := hT.flen
  simp only [List.length_append, List.length_singleton] at hfl
  have hr := hT.frow
  refine ⟨k3.mono fun k e => by subst e; exact ⟨by omega, by omega⟩, Mm.upd_same _ _ _, hT.mark, ?_, ?_, ?_, ?_, hT.hrow.keep k3 (by omega)⟩
  · refine Row.keep ?_ k3 (by omega)
    obtain ⟨hl, ⟨hv, h0⟩ | ⟨g', cap, cur, hv, hg, hh, r1, r2, r3, r4⟩⟩ := hr
    · simp at hv
    · simp only [Value.slice.injEq, Option.some.injEq, Addr.mk.injEq] at hv
      obtain ⟨⟨rfl, _, _⟩, _, rfl⟩ := hv
      refine ⟨by simp [ptrs], .inr ⟨g, c, cur, rfl, hg, hh, by simp at r1; omega, r2, r3, ?_⟩⟩
      simp only [List.length_append, List.length_singleton, Nat.mul_one] at r4 ⊢
      have r5 := congrArg (List.take fbs.length) r4
      rw [List.take_take, Nat.min_eq_left (by omega)] at r5
      rw [r5]
      simp [ptrs]
  · show fbs.length = x.frames.dropLast.length
    simp; omega
  · have := hT.nodup
    rw [List.nodup_append] at this
    exact this.1
  · intro i b' f hb hf
    have hf2 : x.frames.dropLast[i]? = some f := hf
    have hi : i < fbs.length := by
      rcases Nat.lt_or_ge i fbs.length with h | h
      · exact h
      · rw [List.getElem?_eq_none h] at hb; cases hb
    have h1 : (fbs ++ [b])[i]? = some b' := by rw [List.getElem?_append_left hi]; exact hb
    have h2 : x.frames[i]? = some f := by
      rw [List.getElem?_dropLast] at hf2
      split at hf2
      · exact hf2
      · cases hf2
    obtain ⟨a1, a2⟩ := hT.frame _ _ _ h1 h2
    exact k3.get a1 a2 (by omega)
end Go.Proofs.YtlpkimpdeeiaaaaGreat
