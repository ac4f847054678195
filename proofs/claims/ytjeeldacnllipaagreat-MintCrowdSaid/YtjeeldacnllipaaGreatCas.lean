/- Walks of layer 6 (cells): Cas. -/
import Derived.Test.YtjeeldacnllipaaGreatCellsB
namespace Go.Proofs.YtjeeldacnllipaaGreat
open Go.RowKit
set_option linter.unusedVariables false
set_option linter.unusedSimpArgs false
set_option linter.unnecessarySimpa false
/-- Does a Cas change its word? -/
def MemS.swaps (s : MemS) (a old : Int) : Bool := s.hit a && (s.f a.toNat == old)
def MemS.cas (s : MemS) (a old v : Int) : MemS := if s.swaps a old then s.store a v else s.at_ a
def casM (M : Mm) (p : Nat) (s : MemS) (a old v : Int) : Mm := if s.swaps a old then storeM M p s a v else M.upd p (.cells (s.at_ a).cells 146)
set_option maxHeartbeats 1000000 in
theorem memCas_eq {σ w : World} {M : Mm} (h : Has σ M w) {p : Nat} {s : MemS} (hM : IsMem M p s) (hb : s.acc < 1000000000) (hb2 : s.wr < 1000000000) (a old v : Int) :
    Calls Tryz.prog 121 #[.pointer (some ⟨p, 0, none⟩), .int .i64 a, .int .u64 old, .int .u64 v] w fun r w' => r = .returned (.bool (s.swaps a old)) ∧ Has σ (casM M p s a old v) w' := by
  have AT := Lib.hid (memAt_eq h hM hb a)
  have HM := Lib.hid (hM.at_ a)
  cases hh : s.hit a
  · have W : Hid (s.swaps a old = false) := by show _ = _; unfold MemS.swaps; rw [hh]; rfl
    have R : Hid (casM M p s a old v = M.upd p (.cells (s.at_ a).cells 146)) := by show _ = _; unfold casM; rw [W.out]; rfl
    rw [R.out, W.out]
    rw [hh] at AT
    clear hh hb hb2 hM R W
    generalize M.upd p _ = M1 at AT HM ⊢
    go_enter Tryz.func121, Tryz.ntmps121
    go_wp2_with (first
      | (go_at_call 119; refine AT.out.mono ?_; clear h; rintro r w ⟨rfl, h⟩))
    go_ret
    exact ⟨rfl, h⟩
  · obtain ⟨h0, h1⟩ := MemS.hit_iff.1 hh
    have hne := hM.ne
    have hrow := hM.row
    obtain ⟨k, hk0⟩ : ∃ k : Nat, a = k := ⟨a.toNat, by omega⟩
    subst hk0
    have A1 : Hid (s.at_ (k : Int) = { s with acc := s.acc + 1, last := (k : Int), named := true }) := by show _ = _; unfold MemS.at_; rw [hh]; rfl
    cases hq : (s.f k == old)
    · have W : Hid (s.swaps (k : Int) old = false) := by show _ = _; unfold MemS.swaps; rw [hh, Int.toNat_natCast, hq]; rfl
      have R : Hid (casM M p s (k : Int) old v = M.upd p (.cells (s.at_ (k : Int)).cells 146)) := by show _ = _; unfold casM; rw [W.out]; rfl
      rw [R.out, W.out]
      rw [hh] at AT
      rw [A1.out] at AT HM ⊢
      clear A1 W R hh hM
      obtain ⟨wb, N, f, acc, wr, last, named, flt⟩ := s
      simp only at *
      have hk : k < N := by omega
      clear hb hb2 h0 h1 hrow hne
      go_enter Tryz.func121, Tryz.ntmps121
      have hp := HM.out.obj
      have hr : M.upd p (.cells (MemS.cells ⟨wb, N, f, acc + 1, wr, k, true, flt⟩) 146) wb = some (.cells (ints .u64 N f) 42) := HM.out.row
      clear HM
      generalize M.upd p _ = M1 at AT hp hr ⊢
      have d0 : (MemS.cells ⟨wb, N, f, acc + 1, wr, k, true, flt⟩)[0]? = some (.slice (some ⟨wb, 0, none⟩) N N) := rfl
      have gk : (ints .u64 N f)[k]? = some (.int .u64 (f k)) := ints_get hk
      have hq' : (f k != old) = true := by unfold bne; rw [hq]; rfl
      go_wp2_with (first
        | (with_reducible show wpList _ _ _ ({ dst := _, op := Op.load 35 _, type := _, pos := _, after := _, guard := _ } :: _) _ _; refine wpList_load1_has h rfl 35 _ rfl rfl hp d0 Tryz.underlying35 rfl ?_)
        | (with_reducible show wpList _ _ _ ({ dst := _, op := Op.load 42 _, type := _, pos := _, after := _, guard := _ } :: _) _ _; refine wpList_load1_has h rfl 42 _ rfl rfl hr gk Tryz.underlying42 rfl ?_)
        | (go_at_call 119; refine AT.out.mono ?_; clear h; rintro r w ⟨rfl, h⟩))
      go_ret
      exact ⟨rfl, h⟩
    · have W : Hid (s.swaps (k : Int) old = true) := by show _ = _; unfold MemS.swaps; rw [hh, Int.toNat_natCast, hq]; rfl
      have R : Hid (casM M p s (k : Int) old v = (M.upd s.wb (s.store (k : Int) v).row).upd p (.cells (s.store (k : Int) v).cells 146)) := by show _ = _; unfold casM; rw [W.out, if_pos rfl]; unfold storeM; rw [hh]; rfl
      rw [R.out, W.out]
      rw [hh] at AT
      have S1 : Hid (s.store (k : Int) v = { s with acc := s.acc + 1, last := (k : Int), named := true, f := upd s.f k v, wr := s.wr + 1 }) := by show _ = _; unfold MemS.store; rw [hh, if_pos rfl, A1.out, Int.toNat_natCast]
      rw [A1.out] at AT HM
      rw [S1.out]
      clear A1 S1 R W hh hM
      obtain ⟨wb, N, f, acc, wr, last, named, flt⟩ := s
      simp only at *
      have hk : k < N := by omega
      have w1 : IntKind.i64.wrap ((wr : Int) + 1) = ((wr + 1 : Nat) : Int) := by rw [show (wr : Int) + 1 = ((wr + 1 : Nat) : Int) by omega]; exact IntWalk.i64_in _ (by omega)
      have hq' : (f k != old) = false := by unfold bne; rw [hq]; rfl
      clear hb hb2 h0 h1
      go_enter Tryz.func121, Tryz.ntmps121
      have hp := HM.out.obj
      have hr : M.upd p (.cells (MemS.cells ⟨wb, N, f, acc + 1, wr, k, true, flt⟩) 146) wb = some (.cells (ints .u64 N f) 42) := HM.out.row
      clear HM
      generalize hM1 : M.upd p _ = M1 at AT hp hr
      have d0 : (MemS.cells ⟨wb, N, f, acc + 1, wr, k, true, flt⟩)[0]? = some (.slice (some ⟨wb, 0, none⟩) N N) := rfl
      have gk : (ints .u64 N f)[k]? = some (.int .u64 (f k)) := ints_get hk
      have M1E := Lib.hid hM1
      clear hM1
      go_upto_region 3 with (first | (with_reducible show wpList _ _ _ ({ dst := _, op := Op.load 35 _, type := _, pos := _, after := _, guard := _ } :: _) _ _; refine wpList_load1_has h rfl 35 _ rfl rfl hp d0 Tryz.underlying35 rfl ?_) | (with_reducible show wpList _ _ _ ({ dst := _, op := Op.load 42 _, type := _, pos := _, after := _, guard := _ } :: _) _ _; refine wpList_load1_has h rfl 42 _ rfl rfl hr gk Tryz.underlying42 rfl ?_) | (go_at_call 119; refine AT.out.mono ?_; clear h; rintro r w ⟨rfl, h⟩))
      clear d0 gk
      have c0 : w.cell? ⟨p, 0, none⟩ = some (.slice (some ⟨wb, 0, none⟩) N N) := h.cell hp 0
      have c2 : w.cell? ⟨p, 2, none⟩ = some (.int .i64 (wr : Nat)) := h.cell hp 2
      have f2 := h.free hp 2
      have ck : w.cell? ⟨wb, k, none⟩ = some (.int .u64 (f k)) := (h.cell hr k).trans (ints_get hk)
      have fk := h.free hr k
      have HP := Lib.hid hp
      have HR := Lib.hid hr
      have HN := Lib.hid hne
      have hne' : ¬ wb = p := fun e => hne e.symm
      clear hp hr AT
      go_wp2
      go_ret
      refine ⟨rfl, ?_⟩
      have k1 := (h.setCell HR.out k (.int .u64 v)).setCell ((Mm.upd_ne HN.out).trans HP.out) 2 (.int .i64 ((wr : Int) + 1))
      rw [ints_set, ← M1E.out, Mm.upd3] at k1
      exact k1
end Go.Proofs.YtjeeldacnllipaaGreat
