/- Walks of the document's answer for layer 9: whether a call may be answered so, where no error is told. -/
import Derived.Test.YtefgeeckfofkfaaFitsB
import Derived.Deep.Light
namespace Go.Proofs.Ytefgeeckfofkfaa
open Go.RowKit
set_option linter.unusedVariables false

set_option maxHeartbeats 1000000 in
theorem rfits_3 (level key ca cb ch reg a b h n k : Int) (hh : 0 ≤ h) (hm : mayB 3 level reg = true) (w : World) : Calls Try.prog 16 #[.agg (callCs 3 level key ca cb ch reg), .agg (ansCs 0 a b h n k)] w fun r w' =>
    r = .returned (.bool (cleanB 3 0 a b h n k && fineB 3 h n)) ∧ Below w.heap.size w w' := by
  have M := Lib.hid hm
  clear hm
  go_enter Try.func16, Try.ntmps16
  go_upto_region 1 with (fail)
  have hI := Inv2.new (callCs 3 level key ca cb ch reg) (ansCs 0 a b h n k) w
  generalize (w.alloc (.cells (callCs 3 level key ca cb ch reg) 26)).alloc (.cells (ansCs 0 a b h n k) 37) = w0 at hI ⊢
  have r0 := hI.ra
  go_upto_region 3 with (first
    | (refine wpList_load_arg rfl 26 _ rfl w.heap.size 0 rfl _ _ r0 Try.underlying26 rfl (by kernel_rfl) ?_)
    | (go_at_call 9; refine (refMay_any 3 level key ca cb ch reg _).mono ?_; rintro r w1 ⟨rfl, hb⟩; rw [M.out]))
  replace hI := hI.on hb
  clear hb r0
  have rb := hI.rb
  go_upto_region 4 with (first
    | (refine wpList_load_arg rfl 37 _ rfl (w.heap.size + 1) 0 rfl _ _ rb Try.underlying37 rfl (by kernel_rfl) ?_)
    | (refine wpList_store_whole rfl 37 _ _ rfl w1.heap.size (ansCs 0 0 0 0 0 0) (ansCs 0 a b h n k) 37 rfl rfl Blk.new rfl (by kernel_rfl) (by kernel_rfl) ?_; intro w2 hx ho))
  have hne : w.heap.size + 1 < w1.heap.size := hI.b.lt
  have hA : Blk w2 w.heap.size (callCs 3 level key ca cb ch reg) 26 := (hI.a.alloc _).only ho (by omega)
  have hB : Blk w2 (w.heap.size + 1) (ansCs 0 a b h n k) 37 := (hI.b.alloc _).only ho (by omega)
  have hw : Below w.heap.size w w2 := ho.below (by omega) (hI.below.alloc (by omega) _)
  generalize w1.heap.size = X at hx hne ⊢
  clear hI rb ho
  have cA : w2.cell? ⟨w.heap.size, 0, none⟩ = some (.int .i64 3) := hA.cell 0
  have cB0 : w2.cell? ⟨w.heap.size + 1, 0, none⟩ = some (.int .i64 0) := hB.cell 0
  have cB2 : w2.cell? ⟨w.heap.size + 1, 2 + 1, none⟩ = some (.int .u64 h) := hB.cell 3
  have cB3 : w2.cell? ⟨w.heap.size + 1, 4, none⟩ = some (.int .i64 n) := hB.cell 4
  have x0 : w2.cell? ⟨X, 0, none⟩ = some (.int .i64 0) := hx.cell 0
  have x1 : w2.cell? ⟨X, 1, none⟩ = some (.int .u64 a) := hx.cell 1
  have x2 : w2.cell? ⟨X, 2, none⟩ = some (.int .u64 b) := hx.cell 2
  have x3 : w2.cell? ⟨X, 3, none⟩ = some (.int .u64 h) := hx.cell 3
  have x4 : w2.cell? ⟨X, 4, none⟩ = some (.int .i64 n) := hx.cell 4
  have x5 : w2.cell? ⟨X, 5, none⟩ = some (.int .i64 k) := hx.cell 5
  have y0 := hx.free 0
  have y1 := hx.free 1
  have y2 := hx.free 2
  have y3 := hx.free 3
  have y4 := hx.free 4
  have y5 := hx.free 5
  clear hA hB hx
  go_wp2
  all_goals
    go_ret
    refine ⟨congrArg (fun b => Ending.returned (Value.bool b)) ?_, by repeat (first | with_reducible exact hw | with_reducible refine Below.drew ?_ | with_reducible refine below_put ?_ (by omega) _)⟩
    clear x0 x1 x2 x3 x4 x5 y0 y1 y2 y3 y4 y5 cA cB0 cB2 cB3 M
    go_light
    simp_all [cleanB, toldCs, pairOp, ansCs, sames, same, fineB] <;> first | omega | (rw [Bool.eq_iff_iff]; simp; omega)

end Go.Proofs.Ytefgeeckfofkfaa
