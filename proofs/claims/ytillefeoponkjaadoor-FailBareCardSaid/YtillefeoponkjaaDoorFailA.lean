/- Walks of layer 8 (fail) and of error codes: what a code is called, what an error tells. -/
import Derived.Test.YtillefeoponkjaaDoorQuiet
namespace Go.Proofs.YtillefeoponkjaaDoor
open Go.RowKit

/-- What codes are called. -/
def codeList : List ByteArray := [⟨#[111, 107]⟩, ⟨#[97, 114, 103]⟩, ⟨#[114, 97, 110, 103, 101]⟩, ⟨#[102, 111, 114, 109]⟩, ⟨#[101, 110, 100]⟩, ⟨#[108, 111, 110, 103]⟩, ⟨#[110, 111, 110, 101]⟩, ⟨#[101, 120, 105, 115, 116, 115]⟩, ⟨#[102, 117, 108, 108]⟩, ⟨#[108, 105, 109, 98, 111]⟩, ⟨#[113, 117, 111, 116, 97]⟩, ⟨#[115, 116, 97, 108, 101]⟩, ⟨#[112, 111, 108, 105, 99, 121]⟩, ⟨#[114, 101, 116, 114, 121]⟩, ⟨#[98, 97, 100]⟩, ⟨#[119, 111, 114, 110]⟩]
def codeCells : Array Value := (codeList.map Value.string).toArray
def codeName (e : Int) : ByteArray := if 0 ≤ e ∧ e < 16 then codeList.getD e.toNat ⟨#[]⟩ else ⟨#[119, 104, 97, 116]⟩
theorem codeCells_get {k : Nat} (h : k < 16) : codeCells[k]? = some (.string (codeList.getD k ⟨#[]⟩)) := by
  rcases (by omega : k = 0 ∨ k = 1 ∨ k = 2 ∨ k = 3 ∨ k = 4 ∨ k = 5 ∨ k = 6 ∨ k = 7 ∨ k = 8 ∨ k = 9 ∨ k = 10 ∨ k = 11 ∨ k = 12 ∨ k = 13 ∨ k = 14 ∨ k = 15) with rfl | rfl | rfl | rfl | rfl | rfl | rfl | rfl | rfl | rfl | rfl | rfl | rfl | rfl | rfl | rfl <;> rfl

theorem codeName_size (e : Int) : (codeName e).size ≤ 7 := by
  unfold codeName
  split
  · rename_i h
    generalize hk : e.toNat = k
    rcases (by omega : k = 0 ∨ k = 1 ∨ k = 2 ∨ k = 3 ∨ k = 4 ∨ k = 5 ∨ k = 6 ∨ k = 7 ∨ k = 8 ∨ k = 9 ∨ k = 10 ∨ k = 11 ∨ k = 12 ∨ k = 13 ∨ k = 14 ∨ k = 15) with rfl | rfl | rfl | rfl | rfl | rfl | rfl | rfl | rfl | rfl | rfl | rfl | rfl | rfl | rfl | rfl <;> decide +kernel
  · decide +kernel

set_option maxHeartbeats 400000 in
theorem names_any (w : World) : Calls Tryd.prog 30 #[] w fun e w' => e = .returned (.agg codeCells) ∧ Below w.heap.size w w' := by
  go_enter Tryd.func30, Tryd.ntmps30
  go_wp2
  exact bodyPost_ret (v := .agg codeCells) (by simp [results, Tryd.results30, go_sem]; rfl) rfl ⟨rfl, by repeat (first | with_reducible exact Below.refl _ _ | with_reducible refine Below.drew ?_ | with_reducible refine below_put ?_ (Nat.le_refl _) _ | with_reducible refine Below.alloc ?_ (by simp) _)⟩

theorem emp16 (t : TypeId) : Obj.cells (Array.replicate 16 (Value.string ⟨#[]⟩)) t = Obj.cells #[.string ⟨#[]⟩, .string ⟨#[]⟩, .string ⟨#[]⟩, .string ⟨#[]⟩, .string ⟨#[]⟩, .string ⟨#[]⟩, .string ⟨#[]⟩, .string ⟨#[]⟩, .string ⟨#[]⟩, .string ⟨#[]⟩, .string ⟨#[]⟩, .string ⟨#[]⟩, .string ⟨#[]⟩, .string ⟨#[]⟩, .string ⟨#[]⟩, .string ⟨#[]⟩] t := rfl
theorem codeCells_one : codeCells.all (·.oneCell') = true := by kernel_rfl

set_option maxHeartbeats 1000000 in
theorem errno_any (e : Int) (w : World) : Calls Tryd.prog 21 #[.int .i64 e] w fun r w' => r = .returned (.string (codeName e)) ∧ Below w.heap.size w w' := by
  by_cases h0 : e < 0
  · have N : Hid (codeName e = ⟨#[119, 104, 97, 116]⟩) := if_neg (by omega)
    go_enter Tryd.func21, Tryd.ntmps21
    go_wp2_with (first
      | (go_at_call 30; refine (names_any _).mono ?_; rintro r w1 ⟨rfl, hb⟩)
      | (refine wpList_store_whole rfl 70 _ _ rfl w1.heap.size (Array.replicate 16 (Value.string ⟨#[]⟩)) codeCells 70 rfl rfl Blk.new (by kernel_rfl) (by kernel_rfl) codeCells_one ?_; intro w2 hx ho))
    go_ret
    exact ⟨by rw [N.out]; rfl, ho.below hb.size (hb.alloc hb.size _)⟩
  · by_cases h1 : 16 ≤ e
    · have N : Hid (codeName e = ⟨#[119, 104, 97, 116]⟩) := if_neg (by omega)
      go_enter Tryd.func21, Tryd.ntmps21
      go_wp2_with (first
        | (go_at_call 30; refine (names_any _).mono ?_; rintro r w1 ⟨rfl, hb⟩)
        | (refine wpList_store_whole rfl 70 _ _ rfl w1.heap.size (Array.replicate 16 (Value.string ⟨#[]⟩)) codeCells 70 rfl rfl Blk.new (by kernel_rfl) (by kernel_rfl) codeCells_one ?_; intro w2 hx ho))
      go_ret
      exact ⟨by rw [N.out]; rfl, ho.below hb.size (hb.alloc hb.size _)⟩
    · have N : Hid (codeName e = codeList.getD e.toNat ⟨#[]⟩) := if_pos (by omega)
      go_enter Tryd.func21, Tryd.ntmps21
      go_wp2_with (first
        | (go_at_call 30; refine (names_any _).mono ?_; rintro r w1 ⟨rfl, hb⟩)
        | (refine wpList_store_whole rfl 70 _ _ rfl w1.heap.size (Array.replicate 16 (Value.string ⟨#[]⟩)) codeCells 70 rfl rfl Blk.new (by kernel_rfl) (by kernel_rfl) codeCells_one ?_; intro w2 hx ho; have ck : w2.cell? ⟨w1.heap.size, e.toNat, none⟩ = some (.string (codeList.getD e.toNat ⟨#[]⟩)) := by rw [hx.cell, codeCells_get (by omega)]))
      go_ret
      exact ⟨by rw [N.out]; rfl, ho.below hb.size (hb.alloc hb.size _)⟩

/-- An error of a code. -/
def codeErr (e : Int) : Value := .iface 22 (.int .i64 e)

set_option maxHeartbeats 400000 in
theorem new_ok (t l : Int) (what : ByteArray) (w : World) : Calls Tryd.prog 19 #[.int .i64 t, .int .i64 l, .string what, .int .i64 0] w fun r w' => r = .returned .nilIface ∧ w = w' := by
  go_enter Tryd.func19, Tryd.ntmps19
  go_wp2
  go_ret
  exact ⟨rfl, rfl⟩
/-- A block that holds an error. -/
def errCells (t l : Int) (what : ByteArray) (inner : Value) : Array Value := #[.int .i64 t, .int .i64 l, .string what, inner]
set_option maxHeartbeats 400000 in
theorem new_err (t l : Int) (what : ByteArray) (e : Int) (h : e ≠ 0) (w : World) : Calls Tryd.prog 19 #[.int .i64 t, .int .i64 l, .string what, .int .i64 e] w fun r w' =>
    r = .returned (.iface 41 (.pointer (some ⟨w.heap.size, 0, none⟩))) ∧ Blk w' w.heap.size (errCells t l what (codeErr e)) 45 ∧ Below w.heap.size w w' := by
  have hd : (e == 0) = false := beq_eq_false_iff_ne.2 h
  clear h
  go_enter Tryd.func19, Tryd.ntmps19
  go_wp2
  go_ret
  exact ⟨rfl, Blk.new, (Below.refl _ _).alloc (Nat.le_refl _) _⟩

set_option maxHeartbeats 400000 in
theorem text_nil (w : World) : Calls Tryd.prog 10 #[.nilIface] w fun r w' => r = .returned (.string (codeName 0)) ∧ Below w.heap.size w w' := by
  go_enter Tryd.func10, Tryd.ntmps10
  go_wp2_with (go_at_call 21; refine (errno_any _ _).mono ?_; rintro r w1 ⟨rfl, hb⟩)
  go_ret
  exact ⟨rfl, hb⟩

set_option maxHeartbeats 400000 in
theorem text_code (e : Int) (w : World) : Calls Tryd.prog 10 #[codeErr e] w fun r w' => r = .returned (.string (codeName e)) ∧ Below w.heap.size w w' := by
  unfold codeErr
  have hm : ∀ w, (method 237 22 (.int .i64 e) "Error").run Tryd.prog w = .ok (21, .int .i64 e) w := fun _ => by kernel_rfl
  go_enter Tryd.func10, Tryd.ntmps10
  go_wp2_with (go_at_call 21; refine (errno_any _ _).mono ?_; rintro r w1 ⟨rfl, hb⟩)
  go_ret
  exact ⟨rfl, hb⟩

end Go.Proofs.YtillefeoponkjaaDoor
