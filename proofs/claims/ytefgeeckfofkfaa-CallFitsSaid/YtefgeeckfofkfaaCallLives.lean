/- 'lives' of layer 9: the chapter's example. -/
import Derived.Test.YtefgeeckfofkfaaCallC
import Derived.Test.YtefgeeckfofkfaaConfLevel
import Derived.Test.YtefgeeckfofkfaaFailB
import Derived.Deep.RegionWith
namespace Go.Proofs.Ytefgeeckfofkfaa
open Go.RowKit

def cHigh (i : Nat) : Int := if i = 0 ∨ i = 10 then 2 else if i = 1 ∨ i = 2 ∨ i = 11 ∨ i = 12 then 1 else 0
theorem cHigh_level : levelOf cHigh 0 = 1 := by decide +kernel
theorem cHigh_reads : readsB cHigh 0 0 = true := by decide +kernel

set_option maxHeartbeats 400000 in
theorem high_any (w : World) : Calls Try.prog 19 #[] w fun e w' => e = .returned (.agg (ints .i64 14 cHigh)) ∧ Below w.heap.size w w' := by
  go_enter Try.func19, Try.ntmps19
  go_wp2
  exact bodyPost_ret (v := .agg (ints .i64 14 cHigh)) (by simp [results, Try.results19, go_sem]; rfl) rfl ⟨rfl, by repeat (first | with_reducible exact Below.refl _ _ | with_reducible refine Below.drew ?_ | with_reducible refine below_put ?_ (Nat.le_refl _) _ | with_reducible refine Below.alloc ?_ (by simp) _)⟩

set_option maxHeartbeats 1000000 in
theorem writes_high (w : World) : Calls Try.prog 29 #[.agg (ints .i64 14 cHigh), .int .i64 0, .int .i64 0] w fun e w' => e = .returned (.bool false) ∧ Below w.heap.size w w' := by
  go_enter Try.func29, Try.ntmps29
  go_upto_region 1 with (fail)
  have hI := Inv14.new cHigh w
  generalize w.alloc (.cells (ints .i64 14 cHigh) 46) = w1 at hI ⊢
  have r := hI.r14
  go_wp2_with (first
    | (refine wpList_load_arr rfl 46 _ rfl w.heap.size 0 rfl (ints .i64 14 cHigh) _ r Try.underlying46 rfl (by rw [ints_size]; kernel_rfl) ?_)
    | (go_at_call 30; refine (reads_any _ _ _ _).mono ?_; rintro e w2 ⟨rfl, hb⟩; rw [cHigh_reads]; have hI2 := hI.on hb; have c2 : w2.cell? ⟨w.heap.size, 2, none⟩ = some (.int .i64 1) := hI2.cell (by omega)))
  go_ret
  exact ⟨rfl, hI2.2⟩

/-- A call stands boxed behind the configuration. -/
structure InvP (cs : Array Value) (w w' : World) : Prop where
  a : Blk w' w.heap.size (ints .i64 14 cHigh) 46
  b : Blk w' (w.heap.size + 1) cs 26
  below : Below w.heap.size w w'
section
variable {cs : Array Value} {w w1 w2 : World}
theorem InvP.new (cs : Array Value) (w : World) : InvP cs w ((w.alloc (.cells (ints .i64 14 cHigh) 46)).alloc (.cells cs 26)) := by
  refine ⟨Blk.new.alloc _, ?_, ((Below.refl _ _).alloc (Nat.le_refl _) _).alloc (by simp) _⟩
  have := Blk.new (w := w.alloc (.cells (ints .i64 14 cHigh) 46)) (cs := cs) (t := 26)
  rwa [World.size_alloc] at this
theorem InvP.on (h : InvP cs w w1) (hb : Below w1.heap.size w1 w2) : InvP cs w w2 := ⟨h.a.below hb h.a.lt, h.b.below hb h.b.lt, h.below.trans (hb.mono h.below.size)⟩
theorem InvP.drew (h : InvP cs w w1) : InvP cs w w1.drew := ⟨h.a.drew, h.b.drew, h.below.drew⟩
theorem InvP.r14 (h : InvP cs w w1) : w1.rangeAt w.heap.size 0 (ints .i64 14 cHigh).toList := Blk.range (pre := []) (post := []) (by simpa using h.a) rfl
theorem InvP.r7 (h : InvP cs w w1) : w1.rangeAt (w.heap.size + 1) 0 cs.toList := Blk.range (pre := []) (post := []) (by simpa using h.b) rfl
end
def callCells (op : Int) : Array Value := #[.int .i64 op, .int .i64 0, .int .i64 0, .int .u64 0, .int .u64 0, .int .u64 0, .int .i64 0]

set_option maxHeartbeats 1000000 in
theorem policy_get (w : World) : Calls Try.prog 18 #[.agg (ints .i64 14 cHigh), .int .i64 0, .agg (callCells 1)] w fun e w' => e = .returned .nilIface ∧ Below w.heap.size w w' := by
  go_enter Try.func18, Try.ntmps18
  go_upto_region 1 with (fail)
  have hI := InvP.new (callCells 1) w
  generalize (w.alloc (.cells (ints .i64 14 cHigh) 46)).alloc (.cells (callCells 1) 26) = w1 at hI ⊢
  have r := hI.r7
  go_wp2_with (first
    | (refine wpList_load_arg rfl 46 _ rfl w.heap.size 0 rfl (ints .i64 14 cHigh) _ hI.r14 Try.underlying46 rfl (by rw [ints_size]; kernel_rfl) ?_)
    | (refine wpList_load_arg rfl 26 _ rfl (w.heap.size + 1) 0 rfl (callCells 1) _ r Try.underlying26 rfl (by kernel_rfl) ?_)
    | (go_at_call 8; refine (may_any 1 0 0 0 0 0 0 _).mono ?_; rintro e w2 ⟨rfl, hb⟩; rw [show mayB 1 0 0 = true from rfl]; replace hI := hI.on hb; clear hb)
    | (go_at_call 27; refine (level_any cHigh 0 _).mono ?_; rintro e w2 ⟨rfl, hb⟩; rw [cHigh_level]; replace hI := hI.on hb; clear hb; have l1 : w2.cell? ⟨w.heap.size + 1, 1, none⟩ = some (.int .i64 0) := hI.b.cell 1)
    | (go_at_call 29; refine (writes_high _).mono ?_; rintro e w3 ⟨rfl, hb⟩; replace hI := hI.on hb; clear hb; have l0 : w3.cell? ⟨w.heap.size + 1, 0, none⟩ = some (.int .i64 1) := hI.b.cell 0; have l1 : w3.cell? ⟨w.heap.size + 1, 1, none⟩ = some (.int .i64 0) := hI.b.cell 1)
    | (go_at_call 11; refine (looks_any 1 _).mono ?_; rintro e w4 ⟨rfl, rfl⟩; rw [show looksB 1 = true from rfl])
    | (go_at_call 30; refine (reads_any cHigh 0 0 _).mono ?_; rintro e w5 ⟨rfl, hb⟩; rw [cHigh_reads]; replace hI := hI.on hb; clear hb))
  go_ret
  exact ⟨rfl, hI.below⟩

set_option maxHeartbeats 1000000 in
theorem policy_put (w : World) : Calls Try.prog 18 #[.agg (ints .i64 14 cHigh), .int .i64 0, .agg (callCells 0)] w fun e w' =>
    ∃ b, e = .returned (.iface 62 (.pointer (some ⟨b, 0, none⟩))) ∧ Blk w' b (errCells 0 0 ⟨#[112, 117, 116]⟩ (codeErr 12)) 64 ∧ Below w.heap.size w w' := by
  go_enter Try.func18, Try.ntmps18
  go_upto_region 1 with (fail)
  have hI := InvP.new (callCells 0) w
  generalize (w.alloc (.cells (ints .i64 14 cHigh) 46)).alloc (.cells (callCells 0) 26) = w1 at hI ⊢
  have r := hI.r7
  go_upto_region 7 with (first
    | (refine wpList_load_arg rfl 46 _ rfl w.heap.size 0 rfl (ints .i64 14 cHigh) _ hI.r14 Try.underlying46 rfl (by rw [ints_size]; kernel_rfl) ?_)
    | (refine wpList_load_arg rfl 26 _ rfl (w.heap.size + 1) 0 rfl (callCells 0) _ r Try.underlying26 rfl (by kernel_rfl) ?_)
    | (go_at_call 8; refine (may_any 0 0 0 0 0 0 0 _).mono ?_; rintro e w2 ⟨rfl, hb⟩; rw [show mayB 0 0 0 = true from rfl]; replace hI := hI.on hb; clear hb)
    | (go_at_call 27; refine (level_any cHigh 0 _).mono ?_; rintro e w2 ⟨rfl, hb⟩; rw [cHigh_level]; replace hI := hI.on hb; clear hb; have l1 : w2.cell? ⟨w.heap.size + 1, 1, none⟩ = some (.int .i64 0) := hI.b.cell 1)
    | (go_at_call 29; refine (writes_high _).mono ?_; rintro e w3 ⟨rfl, hb⟩; replace hI := hI.on hb; clear hb; have l0 : w3.cell? ⟨w.heap.size + 1, 0, none⟩ = some (.int .i64 0) := hI.b.cell 0; have l1 : w3.cell? ⟨w.heap.size + 1, 1, none⟩ = some (.int .i64 0) := hI.b.cell 1)
    | (go_at_call 11; refine (looks_any 0 _).mono ?_; rintro e w4 ⟨rfl, rfl⟩; rw [show looksB 0 = false from rfl]))
  replace hI := hI.drew
  go_region_with (first
    | (go_at_call 10; refine (word_any 0 _).mono ?_; rintro e w5 ⟨rfl, hb⟩; rw [show wordOf 0 = ⟨#[112, 117, 116]⟩ from rfl]; replace hI := hI.on hb; clear hb; have m1 : w5.cell? ⟨w.heap.size + 1, 1, none⟩ = some (.int .i64 0) := hI.b.cell 1)
    | (go_at_call 28; refine (new_err 0 0 _ 12 (by decide) _).mono ?_; rintro e w6 ⟨rfl, hN, hb⟩))
  all_goals
    go_wp2
    go_ret
    exact ⟨_, rfl, hN, hI.below.trans (hb.mono hI.below.size)⟩

theorem string_eq {a b : ByteArray} (h : a = b) : (a.toList == b.toList) = true := by rw [h]; exact beq_self_eq_true _
set_option maxHeartbeats 1000000 in
theorem lives_09 (w : World) : Calls Try.prog 5 #[] w fun e w' => e = .returned (.bool true) ∧ Below w.heap.size w w' := by
  have hs : (((⟨#[116, 104, 114, 101, 97, 100, 32, 48, 32, 108, 101, 118, 101, 108, 32, 48, 32, 112, 117, 116, 58, 32]⟩ : ByteArray) ++ codeName 12).toList == [116, 104, 114, 101, 97, 100, 32, 48, 32, 108, 101, 118, 101, 108, 32, 48, 32, 112, 117, 116, 58, 32, 112, 111, 108, 105, 99, 121]) = true := by decide +kernel
  have acc := Below.refl w.heap.size w
  have P1 : Hid (∀ w, Calls Try.prog 18 #[.agg (ints .i64 14 cHigh), .int .i64 0, .agg #[.int .i64 1, .int .i64 0, .int .i64 0, .int .u64 0, .int .u64 0, .int .u64 0, .int .i64 0]] w fun e w' => e = .returned .nilIface ∧ Below w.heap.size w w') := policy_get
  have P2 : Hid (∀ w, Calls Try.prog 18 #[.agg (ints .i64 14 cHigh), .int .i64 0, .agg #[.int .i64 0, .int .i64 0, .int .i64 0, .int .u64 0, .int .u64 0, .int .u64 0, .int .i64 0]] w fun e w' =>
    ∃ b, e = .returned (.iface 62 (.pointer (some ⟨b, 0, none⟩))) ∧ Blk w' b (errCells 0 0 ⟨#[112, 117, 116]⟩ (codeErr 12)) 64 ∧ Below w.heap.size w w') := policy_put
  go_enter Try.func5, Try.ntmps5
  go_wp2_with (first
    | (go_at_call 19; refine (high_any _).mono ?_; rintro e w1 ⟨rfl, hb⟩; replace acc := acc.trans (hb.mono acc.size); clear hb)
    | (go_at_call 18; ((with_reducible refine (P1.out _).mono ?_); rintro e w2 ⟨rfl, hb⟩; replace acc := acc.trans (hb.mono acc.size); clear hb))
    | (go_at_call 18; ((with_reducible refine (P2.out _).mono ?_); rintro e w3 ⟨b, rfl, hN, hb⟩; replace acc := acc.trans (hb.mono acc.size); clear hb))
    | (go_at_call 20; refine (text_00 b 12 _ hN).mono ?_; rintro e w4 ⟨rfl, hb⟩; replace acc := acc.trans (hb.mono acc.size); clear hb))
  go_ret
  exact ⟨rfl, acc⟩

end Go.Proofs.Ytefgeeckfofkfaa
