/- slices.Grow, slices.Concat over entries. -/
import Derived.Test.YtlgnknaffnnkkaaWevH
import Derived.Lib.AppendZeros
namespace Go.Proofs.Ytlgnknaffnnkkaa
open Go.RowKit
set_option linter.unusedVariables false
set_option linter.unusedSimpArgs false
set_option linter.unnecessarySimpa false
section
variable {P : Program} {ops : Array Oper} {rest : List Oper} {op : Oper} {a : Act} {σ w : World} {M : Mm} {Q : Exit → Act → World → Prop}
theorem wpList_append_zeros (h : Has σ M w) (hgd : op.guard = none) (s x : Operand) (t tn : TypeId) (ho : op.op = .call { callee := .builtin .append, args := #[s, x], argTypes := #[t, tn] })
    {e : TypeId} {kn k : IntKind} {z : Value} {size bytes : Nat} (ht : P.underlying t = some (.slice e)) (htn : P.underlying tn = some (.int kn)) (hi : (P.info? e).map (fun i => (i.zero, i.size, i.bytes)) = some (some z, size, bytes)) (hzs : z.cells.size = size) (hsz : 0 < size)
    (hs : a.eval s = .slice none 0 0) {n : Nat} (hx : a.eval x = .int k n) (h0 : 0 < n) (hn : n ≤ 4000000) (hb : bytes ≤ 1000000)
    (hk : ∀ g cap w' M', Has σ M' w' → M.le M' → Own M M' e size (.slice (some ⟨g, 0, none⟩) 0 cap) 0 [] → wpList P ops Q rest (a.put op.dst (.slice (some ⟨g, 0, none⟩) n cap)) w') : wpList P ops Q (op :: rest) a w := by
  obtain ⟨i, hi1, hz, hsize, hby⟩ := info_parts hi
  have hnb : n * i.bytes ≤ 281474976710656 := by
    have := Nat.mul_le_mul hn (show i.bytes ≤ 1000000 by omega)
    omega
  refine Lib.wpList_append_run w hgd s x t tn ho _ _ hs hx _ _ (Lib.run_append_nil_zeros w t tn op.type e i z k kn ht htn hi1 hz n h0 (by omega) (by omega) hnb) ?_
  have hh := h.drew.alloc (.cells (Builtin.zeroCells z.cells n ++ Builtin.zeroCells z.cells (grownCap w n 0 e - n)) e)
  have hge := grownCap_ge w n 0 e
  refine hk w.heap.size _ _ _ hh (Mm.le_upd' h.drew.fresh _) ⟨by simp, .inr ⟨_, _, _, rfl, h.fresh, Mm.upd_same _ _ _, Nat.zero_le _, grownCap_le_maxLen w n 0 e (by unfold maxLen; omega), ?_, by simp⟩⟩
  simp only [Array.size_append, size_zeroCells, hzs]
  rw [← Nat.add_mul]
  congr 1
  omega
end
set_option maxHeartbeats 1000000 in
theorem grow_has {σ w : World} {M : Mm} (h : Has σ M w) (n : Nat) (hn : n ≤ 4000000) :
    Calls Try.prog 43 #[.slice none 0 0, .int .i64 n] w fun r w' => ∃ v, r = .returned v ∧ Acc σ M w' 43 2 v 0 [] := by
  by_cases h0 : 0 < n
  · go_enter Try.func43, Try.ntmps43
    go_wp2_with (first
      | ((at_builtin; refine wpList_append_zeros h rfl _ _ _ _ rfl Try.underlying27 Try.underlying3 info_ent rfl (by omega) rfl rfl h0 hn (by omega) ?_; clear h; intro g cap w M' h hle hown)))
    go_ret
    exact ⟨_, rfl, M', h, hle, hown⟩
  · obtain rfl : n = 0 := by omega
    go_enter Try.func43, Try.ntmps43
    go_wp2
    go_ret
    exact ⟨_, rfl, Acc.nil h _ _⟩
theorem oneE (E : List PEnt) : ∀ y ∈ E.flatMap encE, y.oneCell' = true := oneCell_flat encE_one E
set_option maxHeartbeats 2000000 in
theorem concat_has {σ w : World} {M : Mm} (h : Has σ M w) (va vb : Value) (A B : List PEnt) (ha : Rd M 2 va A.length (A.flatMap encE)) (hb : Rd M 2 vb B.length (B.flatMap encE)) (hA : A.length ≤ 1000000) (hB : B.length ≤ 1000000) {bq : Nat} (hq : M bq = some (.cells #[va, vb] 27)) :
    Calls Try.prog 28 #[.slice (some ⟨bq, 0, none⟩) 2 2] w fun r w' => ∃ v, r = .returned v ∧ Acc σ M w' 43 2 v (A ++ B).length ((A ++ B).flatMap encE) := by
  have GR := Lib.hid (fun (w : World) (h : Has σ M w) => grow_has h (A.length + B.length) (by omega))
  have oA := oneE A
  have oB := oneE B
  have d0 : (#[va, vb] : Array Value)[0]? = some va := rfl
  have d1 : (#[va, vb] : Array Value)[1]? = some vb := rfl
  rw [List.length_append, List.flatMap_append]
  obtain ⟨Aa, ca, rfl⟩ := ha.form
  obtain ⟨Ab, cb, rfl⟩ := hb.form
  generalize A.length = na at *
  generalize B.length = nb at *
  generalize A.flatMap encE = xa at *
  generalize B.flatMap encE = xb at *
  go_enter Try.func28, Try.ntmps28
  go_wp2
  go_loopw [3, 11] (fun s i wr => ∃ k : Nat, k ≤ 2 ∧ i = .int .i64 k ∧ s = .int .i64 (if k = 0 then 0 else if k = 1 then (na : Int) else (na : Int) + (nb : Int)) ∧ Has σ M wr) (fun _ i _ => 2 - (intOf i).toNat)
  case atStart => exact ⟨0, by omega, rfl, rfl, h⟩
  case round =>
    clear h w
    obtain ⟨w, rfl⟩ : ∃ x : World, x = wr := ⟨_, rfl⟩
    obtain ⟨k, hk, rfl, rfl, h⟩ := hrel
    obtain rfl | rfl | rfl : k = 0 ∨ k = 1 ∨ k = 2 := by omega
    · simp only [if_true]
      go_wp2_with (first
        | (with_reducible show wpList _ _ _ ({ dst := _, op := Op.load 27 _, type := _, pos := _, after := _, guard := _ } :: _) _ _; refine wpList_load1_has h rfl 27 _ rfl rfl hq d0 Try.underlying27 rfl ?_))
      go_roundw
      case rel => exact ⟨1, by omega, rfl, by simp, h⟩
      case measure => simp [intOf]
    · go_wp2_with (first
        | (with_reducible show wpList _ _ _ ({ dst := _, op := Op.load 27 _, type := _, pos := _, after := _, guard := _ } :: _) _ _; refine wpList_load1_has h rfl 27 _ rfl rfl hq d1 Try.underlying27 rfl ?_))
      go_roundw
      case rel => exact ⟨2, by omega, rfl, by simp, h⟩
      case measure => simp [intOf]
    · simp only [Int.natCast_add] at GR
      go_wp2_with (first
        | (go_at_call 43; refine (GR.out _ h).mono ?_; clear h; rintro r w ⟨v0, rfl, M0, h, hle0, hown0⟩))
      go_loopw [6, 27] (fun v i wr => ∃ k : Nat, k ≤ 2 ∧ i = .int .i64 k ∧ Acc σ M wr 43 2 v (if k = 0 then 0 else if k = 1 then na else na + nb) (if k = 0 then [] else if k = 1 then xa else xa ++ xb)) (fun _ i _ => 2 - (intOf i).toNat)
      case atStart => exact ⟨0, by omega, rfl, M0, h, hle0, hown0⟩
      case round =>
        clear h w hown0 hle0
        obtain ⟨w, rfl⟩ : ∃ x : World, x = wr := ⟨_, rfl⟩
        obtain ⟨k, hk, rfl, M', h, hle, hown⟩ := hrel
        have hq' := hle _ _ hq
        have ha' := ha.le hle
        have hb' := hb.le hle
        obtain rfl | rfl | rfl : k = 0 ∨ k = 1 ∨ k = 2 := by omega
        · replace hown : Own M M' 43 2 _ 0 [] := hown
          go_wp2_with (first
            | (with_reducible show wpList _ _ _ ({ dst := _, op := Op.load 27 _, type := _, pos := _, after := _, guard := _ } :: _) _ _; refine wpList_load1_has h rfl 27 _ rfl rfl hq' d0 Try.underlying27 rfl ?_)
            | (at_builtin; refine wpList_append_rd h hle rfl _ _ _ rfl Try.underlying27 info_ent rfl (by omega) rfl hown rfl ha' oA (by omega) (by omega) ?_; clear h hle hown; intro v w hacc))
          go_roundw
          case rel => exact ⟨1, by omega, rfl, by simpa using hacc⟩
          case measure => simp [intOf]
        · replace hown : Own M M' 43 2 _ na xa := hown
          go_wp2_with (first
            | (with_reducible show wpList _ _ _ ({ dst := _, op := Op.load 27 _, type := _, pos := _, after := _, guard := _ } :: _) _ _; refine wpList_load1_has h rfl 27 _ rfl rfl hq' d1 Try.underlying27 rfl ?_)
            | (at_builtin; refine wpList_append_rd h hle rfl _ _ _ rfl Try.underlying27 info_ent rfl (by omega) rfl hown rfl hb' oB (by omega) (by omega) ?_; clear h hle hown; intro v w hacc))
          go_roundw
          case rel => exact ⟨2, by omega, rfl, by simpa using hacc⟩
          case measure => simp [intOf]
        · replace hown : Own M M' 43 2 _ (na + nb) (xa ++ xb) := hown
          go_wp2
          go_ret
          exact ⟨_, rfl, M', h, hle, hown⟩
end Go.Proofs.Ytlgnknaffnnkkaa
