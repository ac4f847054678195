/- What codes are called: the program's answer, and the document's. (Lines of XFailA, XAsK.) -/
import Derived.Test.YtngiabfpfklmjaaDoorWalk
namespace Go.Proofs.YtngiabfpfklmjaaDoor
open Go.RowKit
set_option linter.unusedVariables false
set_option linter.unusedSimpArgs false

/-- What codes are called. -/
def codeList : List ByteArray := [⟨#[111, 107]⟩, ⟨#[97, 114, 103]⟩, ⟨#[114, 97, 110, 103, 101]⟩, ⟨#[102, 111, 114, 109]⟩, ⟨#[101, 110, 100]⟩, ⟨#[108, 111, 110, 103]⟩, ⟨#[110, 111, 110, 101]⟩, ⟨#[101, 120, 105, 115, 116, 115]⟩, ⟨#[102, 117, 108, 108]⟩, ⟨#[108, 105, 109, 98, 111]⟩, ⟨#[113, 117, 111, 116, 97]⟩, ⟨#[115, 116, 97, 108, 101]⟩, ⟨#[112, 111, 108, 105, 99, 121]⟩, ⟨#[114, 101, 116, 114, 121]⟩, ⟨#[98, 97, 100]⟩, ⟨#[119, 111, 114, 110]⟩]
def codeCells : Array Value := (codeList.map Value.string).toArray
def codeName (e : Int) : ByteArray := if 0 ≤ e ∧ e < 16 then codeList.getD e.toNat ⟨#[]⟩ else ⟨#[119, 104, 97, 116]⟩
theorem codeCells_get {k : Nat} (h : k < 16) : codeCells[k]? = some (.string (codeList.getD k ⟨#[]⟩)) := by
  rcases (by omega : k = 0 ∨ k = 1 ∨ k = 2 ∨ k = 3 ∨ k = 4 ∨ k = 5 ∨ k = 6 ∨ k = 7 ∨ k = 8 ∨ k = 9 ∨ k = 10 ∨ k = 11 ∨ k = 12 ∨ k = 13 ∨ k = 14 ∨ k = 15) with rfl | rfl | rfl | rfl | rfl | rfl | rfl | rfl | rfl | rfl | rfl | rfl | rfl | rfl | rfl | rfl <;> rfl

theorem codeName_size (e : Int) : (codeName e).size ≤ 7 := by
  unfold codeName
  split
  · rename_i h
    generalize hk : e.toNat = k
    rcases (by omega : k = 0 ∨ k = 1 ∨ k = 2 ∨ k = 3 ∨ k = 4 ∨ k = 5 ∨ k = 6 ∨ k = 7 ∨ k = 8 ∨ k = 9 ∨ k = 10 ∨ k = 11 ∨ k = 12 ∨ k = 13 ∨ k = 14 ∨ k = 15) with rfl | rfl | rfl | rfl | rfl | rfl | rfl | rfl | rfl | rfl | rfl | rfl | rfl | rfl | rfl | rfl <;> decide +kernel
  · decide +kernel

set_option maxHeartbeats 400000 in
theorem names_any (w : World) : Calls Tryd.prog 29 #[] w fun e w' => e = .returned (.agg codeCells) ∧ Below w.heap.size w w' := by
  go_enter Tryd.func29, Tryd.ntmps29
  go_wp2
  exact bodyPost_ret (v := .agg codeCells) (by simp [results, Tryd.results29, go_sem]; rfl) rfl ⟨rfl, by repeat (first | with_reducible exact Below.refl _ _ | with_reducible refine Below.drew ?_ | with_reducible refine below_put ?_ (Nat.le_refl _) _ | with_reducible refine Below.alloc ?_ (by simp) _)⟩

theorem emp16 (t : TypeId) : Obj.cells (Array.replicate 16 (Value.string ⟨#[]⟩)) t = Obj.cells #[.string ⟨#[]⟩, .string ⟨#[]⟩, .string ⟨#[]⟩, .string ⟨#[]⟩, .string ⟨#[]⟩, .string ⟨#[]⟩, .string ⟨#[]⟩, .string ⟨#[]⟩, .string ⟨#[]⟩, .string ⟨#[]⟩, .string ⟨#[]⟩, .string ⟨#[]⟩, .string ⟨#[]⟩, .string ⟨#[]⟩, .string ⟨#[]⟩, .string ⟨#[]⟩] t := rfl
theorem codeCells_one : codeCells.all (·.oneCell') = true := by kernel_rfl

set_option maxHeartbeats 1000000 in
theorem errno_any (e : Int) (w : World) : Calls Tryd.prog 15 #[.int .i64 e] w fun r w' => r = .returned (.string (codeName e)) ∧ Below w.heap.size w w' := by
  by_cases h0 : e < 0
  · have N : Hid (codeName e = ⟨#[119, 104, 97, 116]⟩) := if_neg (by omega)
    go_enter Tryd.func15, Tryd.ntmps15
    go_wp2_with (first
      | (go_at_call 29; refine (names_any _).mono ?_; rintro r w1 ⟨rfl, hb⟩)
      | (refine wpList_store_whole rfl 64 _ _ rfl w1.heap.size (Array.replicate 16 (Value.string ⟨#[]⟩)) codeCells 64 rfl rfl Blk.new (by kernel_rfl) (by kernel_rfl) codeCells_one ?_; intro w2 hx ho))
    go_ret
    exact ⟨by rw [N.out]; rfl, ho.below hb.size (hb.alloc hb.size _)⟩
  · by_cases h1 : 16 ≤ e
    · have N : Hid (codeName e = ⟨#[119, 104, 97, 116]⟩) := if_neg (by omega)
      go_enter Tryd.func15, Tryd.ntmps15
      go_wp2_with (first
        | (go_at_call 29; refine (names_any _).mono ?_; rintro r w1 ⟨rfl, hb⟩)
        | (refine wpList_store_whole rfl 64 _ _ rfl w1.heap.size (Array.replicate 16 (Value.string ⟨#[]⟩)) codeCells 64 rfl rfl Blk.new (by kernel_rfl) (by kernel_rfl) codeCells_one ?_; intro w2 hx ho))
      go_ret
      exact ⟨by rw [N.out]; rfl, ho.below hb.size (hb.alloc hb.size _)⟩
    · have N : Hid (codeName e = codeList.getD e.toNat ⟨#[]⟩) := if_pos (by omega)
      go_enter Tryd.func15, Tryd.ntmps15
      go_wp2_with (first
        | (go_at_call 29; refine (names_any _).mono ?_; rintro r w1 ⟨rfl, hb⟩)
        | (refine wpList_store_whole rfl 64 _ _ rfl w1.heap.size (Array.replicate 16 (Value.string ⟨#[]⟩)) codeCells 64 rfl rfl Blk.new (by kernel_rfl) (by kernel_rfl) codeCells_one ?_; intro w2 hx ho; have ck : w2.cell? ⟨w1.heap.size, e.toNat, none⟩ = some (.string (codeList.getD e.toNat ⟨#[]⟩)) := by rw [hx.cell, codeCells_get (by omega)]))
      go_ret
      exact ⟨by rw [N.out]; rfl, ho.below hb.size (hb.alloc hb.size _)⟩

theorem refName_eq {σ w : World} {M : Mm} (h : Has σ M w) (c : Int) :
    Calls Tryd.prog 20 #[.int .i64 c] w fun r w' => r = .returned (.string (codeName c)) ∧ Has σ M w' := by
  by_cases hc : c < 0 ∨ 16 ≤ c
  · have N : Hid (codeName c = ⟨#[119, 104, 97, 116]⟩) := if_neg (by omega)
    have g : (decide (c < 0) = true ∨ (decide (c < 0) = false ∧ decide ((16 : Int) ≤ c) = true)) := by simp; omega
    clear hc
    go_enter Tryd.func20, Tryd.ntmps20
    go_upto_region 2 with (fail)
    have h := h.quietAlloc (.cells codeCells 9)
    rcases g with g | ⟨g, g'⟩
    · go_wp2
      go_ret
      exact ⟨by rw [N.out]; rfl, h⟩
    · go_wp2
      go_ret
      exact ⟨by rw [N.out]; rfl, h⟩
  · have hc0 : 0 ≤ c := by omega
    have hc16 : c < 16 := by omega
    obtain ⟨k, rfl⟩ : ∃ k : Nat, c = k := ⟨c.toNat, by omega⟩
    have hk : k < 16 := by omega
    have N : Hid (codeName k = codeList.getD k ⟨#[]⟩) := by show _ = _; unfold codeName; rw [if_pos (by omega), Int.toNat_natCast]
    have g : decide ((k : Int) < 0) = false := by simp
    have g' : decide ((16 : Int) ≤ (k : Int)) = false := by simp; omega
    clear hc
    go_enter Tryd.func20, Tryd.ntmps20
    go_upto_region 2 with (fail)
    obtain ⟨M', hbx, hle, hb, hn⟩ := h.box (.cells #[.string ⟨#[111, 107]⟩, .string ⟨#[97, 114, 103]⟩, .string ⟨#[114, 97, 110, 103, 101]⟩, .string ⟨#[102, 111, 114, 109]⟩, .string ⟨#[101, 110, 100]⟩, .string ⟨#[108, 111, 110, 103]⟩, .string ⟨#[110, 111, 110, 101]⟩, .string ⟨#[101, 120, 105, 115, 116, 115]⟩, .string ⟨#[102, 117, 108, 108]⟩, .string ⟨#[108, 105, 109, 98, 111]⟩, .string ⟨#[113, 117, 111, 116, 97]⟩, .string ⟨#[115, 116, 97, 108, 101]⟩, .string ⟨#[112, 111, 108, 105, 99, 121]⟩, .string ⟨#[114, 101, 116, 114, 121]⟩, .string ⟨#[98, 97, 100]⟩, .string ⟨#[119, 111, 114, 110]⟩] 9)
    generalize w.alloc _ = wx at hbx ⊢
    generalize w.heap.size = b at hb hn ⊢
    clear h
    try clear w
    have h := hbx
    clear hbx
    obtain ⟨w, rfl⟩ : ∃ x : World, x = wx := ⟨_, rfl⟩
    have hb : M' b = some (.cells codeCells 9) := hb
    have d := codeCells_get hk
    generalize codeList.getD k ⟨#[]⟩ = s at N d
    go_wp2_with (first
      | (with_reducible show wpList _ _ _ ({ dst := _, op := Op.load 9 _, type := _, pos := _, after := _, guard := _ } :: _) _ _; refine wpList_load1_has h rfl 9 _ rfl rfl hb d Tryd.underlying9 rfl ?_))
    go_ret
    exact ⟨by rw [N.out]; rfl, h.le hle⟩

end Go.Proofs.YtngiabfpfklmjaaDoor
