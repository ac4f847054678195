/- 'lives' of layer 42 returns true; the rate of an error, and the op that is called most. -/
import Derived.Test.YtinidnppdkpmnaaStatsB
import Derived.LoopN
namespace Go.Proofs.Ytinidnppdkpmnaa
open Go.RowKit

def seen (time what : Int) : List Value := [.int .i64 time, .int .i64 what, .int .i64 0, .int .i64 0, .int .i64 0, .int .i64 0, .int .i64 0, .int .u64 0, .int .u64 0, .int .u64 0, .int .i64 0, .int .i64 0, .int .u64 0, .int .u64 0, .int .u64 0, .int .i64 0, .int .i64 0, .int .u64 0]

/-- The counter at first, behind a beginning, and behind its answer. -/
def cnt (calls errors opened most longest : Int) (o : Bool) : Array Value := #[.int .i64 calls, .int .i64 0, .int .i64 0, .int .i64 0, .int .i64 0, .int .i64 0, .int .i64 0, .int .i64 0, .int .i64 0, .int .i64 0, .int .i64 0, .int .i64 0, .int .i64 0, .int .i64 errors, .int .i64 0, .int .i64 0, .int .i64 0, .int .i64 0, .int .i64 0, .int .i64 0, .int .i64 0, .int .i64 0, .int .i64 0, .int .i64 0, .int .i64 0, .int .i64 0, .int .i64 0, .int .i64 0, .int .i64 0, .int .i64 0, .int .i64 opened, .int .i64 most, .int .i64 longest, .bool o, .bool false, .bool false, .bool false, .bool false, .bool false, .bool false, .bool false, .int .i64 0, .int .i64 0, .int .i64 0, .int .i64 0, .int .i64 0, .int .i64 0, .int .i64 0, .int .i64 0]

set_option maxHeartbeats 1000000 in
theorem began_0 (b : Nat) (w : World) (hb : Blk w b (cnt 0 0 0 0 0 false) 54) :
    Calls Try.prog 13 #[.pointer (some ⟨b, 0, none⟩), .agg (seen 0 0).toArray] w fun e w' => e = .returned (.tuple #[]) ∧ Blk w' b (cnt 1 0 1 1 0 true) 54 ∧ Below b w w' := by
  have hc := hb.cell
  have hf := hb.free
  have hlt := hb.lt
  have c0 : w.cell? ⟨b, 0, none⟩ = some (.int .i64 0) := by rw [hc]; rfl
  have c30 : w.cell? ⟨b, 30, none⟩ = some (.int .i64 0) := by rw [hc]; rfl
  have c31 : w.cell? ⟨b, 31, none⟩ = some (.int .i64 0) := by rw [hc]; rfl
  have c33 : w.cell? ⟨b, 33, none⟩ = some (.bool false) := by rw [hc]; rfl
  have c41 : w.cell? ⟨b, 41, none⟩ = some (.int .i64 0) := by rw [hc]; rfl
  have f0 := hf 0
  have f30 := hf 30
  have f31 := hf 31
  have f33 := hf 33
  have f41 := hf 41
  clear hc hf
  unfold seen
  go_enter Try.func13, Try.ntmps13
  go_wp2
  go_region
  all_goals (go_wp2; go_region)
  all_goals (go_wp2; go_region)
  all_goals (go_wp2; go_region)
  all_goals go_wp2
  all_goals
    go_end0
    refine ⟨rfl, ?_, ?_⟩
    · have e : (((((cnt 0 0 0 0 0 false).setIfInBounds 0 (.int .i64 1)).setIfInBounds 30 (.int .i64 1)).setIfInBounds 33 (.bool true)).setIfInBounds 41 (.int .i64 0)).setIfInBounds 31 (.int .i64 1) = cnt 1 0 1 1 0 true := by kernel_rfl
      rw [← e]
      exact ((((((hb.set 0 _).set 30 _).set 33 _).set 41 _).set 31 _).alloc _).drew.drew.drew.drew
    · repeat (first | with_reducible exact Below.refl _ _ | with_reducible refine Below.drew ?_ | with_reducible refine below_put ?_ (Nat.le_refl _) _ | with_reducible refine Below.alloc ?_ (by simp; omega) _)

set_option maxHeartbeats 1000000 in
theorem answered_0 (b : Nat) (w : World) (hb : Blk w b (cnt 1 0 1 1 0 true) 54) :
    Calls Try.prog 14 #[.pointer (some ⟨b, 0, none⟩), .agg (seen 9 1).toArray] w fun e w' => e = .returned (.tuple #[]) ∧ Blk w' b (cnt 1 1 0 1 9 false) 54 ∧ Below b w w' := by
  have hc := hb.cell
  have hf := hb.free
  have hlt := hb.lt
  have c13 : w.cell? ⟨b, 13, none⟩ = some (.int .i64 0) := by rw [hc]; rfl
  have c30 : w.cell? ⟨b, 30, none⟩ = some (.int .i64 1) := by rw [hc]; rfl
  have c32 : w.cell? ⟨b, 32, none⟩ = some (.int .i64 0) := by rw [hc]; rfl
  have c33 : w.cell? ⟨b, 33, none⟩ = some (.bool true) := by rw [hc]; rfl
  have c41 : w.cell? ⟨b, 41, none⟩ = some (.int .i64 0) := by rw [hc]; rfl
  have f13 := hf 13
  have f30 := hf 30
  have f32 := hf 32
  have f33 := hf 33
  clear hc hf
  unfold seen
  go_enter Try.func14, Try.ntmps14
  go_wp2
  go_region
  all_goals (go_wp2; go_region)
  all_goals (go_wp2; go_region)
  all_goals (go_wp2; go_region)
  all_goals go_wp2
  all_goals
    go_end0
    refine ⟨rfl, ?_, ?_⟩
    · have e : ((((cnt 1 0 1 1 0 true).setIfInBounds 13 (.int .i64 1)).setIfInBounds 30 (.int .i64 0)).setIfInBounds 32 (.int .i64 9)).setIfInBounds 33 (.bool false) = cnt 1 1 0 1 9 false := by kernel_rfl
      rw [← e]
      exact (((((hb.set 13 _).set 30 _).set 32 _).set 33 _).alloc _).drew.drew.drew.drew
    · repeat (first | with_reducible exact Below.refl _ _ | with_reducible refine Below.drew ?_ | with_reducible refine below_put ?_ (Nat.le_refl _) _ | with_reducible refine Below.alloc ?_ (by simp; omega) _)


end Go.Proofs.Ytinidnppdkpmnaa
