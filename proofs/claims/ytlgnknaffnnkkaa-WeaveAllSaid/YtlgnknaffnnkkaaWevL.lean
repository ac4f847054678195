/- Weaver: the names, and what makes all variants. -/
import Derived.Test.YtlgnknaffnnkkaaWevK
namespace Go.Proofs.Ytlgnknaffnnkkaa
open Go.RowKit
set_option linter.unusedVariables false
set_option linter.unusedSimpArgs false
set_option linter.unnecessarySimpa false
def nameOf : Nat → ByteArray
  | 0 => ⟨#[112, 117, 114, 103, 101, 100]⟩ | 1 => ⟨#[113, 117, 105, 101, 116]⟩ | 2 => ⟨#[116, 119, 105, 99, 101]⟩ | 3 => ⟨#[108, 97, 116, 101]⟩ | 4 => ⟨#[101, 97, 114, 108, 121]⟩
  | 5 => ⟨#[107, 105, 108, 108, 101, 100]⟩ | 6 => ⟨#[115, 116, 97, 108, 108, 101, 100]⟩ | 7 => ⟨#[101, 109, 112, 116, 121]⟩ | _ => ⟨#[116, 117, 114, 110, 101, 100]⟩
def namesRow : Array Value := #[.string (nameOf 0), .string (nameOf 1), .string (nameOf 2), .string (nameOf 3), .string (nameOf 4), .string (nameOf 5), .string (nameOf 6), .string (nameOf 7), .string (nameOf 8)]
theorem names_get {k : Nat} (hk : k < 9) : namesRow[k]? = some (.string (nameOf k)) := by
  rcases k with _ | _ | _ | _ | _ | _ | _ | _ | _ | k
  all_goals first | rfl | omega
set_option maxHeartbeats 1000000 in
theorem names_has {σ w : World} {M : Mm} (h : Has σ M w) :
    Calls Try.prog 13 #[] w fun r w' => ∃ b M', r = .returned (.slice (some ⟨b, 0, none⟩) 9 9) ∧ Has σ M' w' ∧ M.le M' ∧ M b = none ∧ M' b = some (.cells namesRow 9) := by
  go_enter Try.func13, Try.ntmps13
  go_wp2
  go_ret
  exact ⟨_, _, rfl, h.alloc (.cells namesRow 9), Mm.le_upd' h.fresh _, h.fresh, Mm.upd_same _ _ _⟩
theorem zero_sl : (Try.prog.info? 27).bind (·.zero) = some (.slice none 0 0) := by kernel_rfl
def cloF : Nat → FuncId
  | 0 => 21 | 1 => 23 | 2 => 25 | 3 => 26 | 4 => 29
  | 5 => 30 | 6 => 32 | 7 => 33 | _ => 36
def cloA (bx bh bl : Nat) : Nat → Array Value
  | 3 => #[.pointer (some ⟨bx, 0, none⟩), .pointer (some ⟨bl, 0, none⟩), .pointer (some ⟨bh, 0, none⟩)]
  | 4 => #[.pointer (some ⟨bx, 0, none⟩), .pointer (some ⟨bh, 0, none⟩), .pointer (some ⟨bl, 0, none⟩)]
  | _ => #[.pointer (some ⟨bx, 0, none⟩)]
def cloV (bx bh bl k : Nat) : Value := .func (.func (cloF k)) #[] (cloA bx bh bl k)
def cloRow (bx bh bl : Nat) : Array Value := #[cloV bx bh bl 0, cloV bx bh bl 1, cloV bx bh bl 2, cloV bx bh bl 3, cloV bx bh bl 4, cloV bx bh bl 5, cloV bx bh bl 6, cloV bx bh bl 7, cloV bx bh bl 8]
theorem clo_get (bx bh bl : Nat) {k : Nat} (hk : k < 9) : (cloRow bx bh bl)[k]? = some (cloV bx bh bl k) := by
  rcases k with _ | _ | _ | _ | _ | _ | _ | _ | _ | k
  all_goals first | rfl | omega
set_option maxHeartbeats 2000000 in
theorem made_has {σ w : World} {M : Mm} (h : Has σ M w) (c : Nat → Int) (p : Nat → Value) (e : Value) (E : List PEnt) (he : Rd M 2 e E.length (E.flatMap encE)) (hE : E.length ≤ 1000000) (l : Int) :
    Calls Try.prog 16 #[weaV c p e l] w fun r w' => ∃ bx bh bl bc vh vl M', r = .returned (.slice (some ⟨bc, 0, none⟩) 9 9) ∧ Has σ M' w' ∧ M.le M' ∧ (M bx = none ∧ M' bx = some (.cells (weaRow c p e l) 46)) ∧ (M bh = none ∧ M' bh = some (.cells #[vh] 27)) ∧ (M bl = none ∧ M' bl = some (.cells #[vl] 27)) ∧ (M bc = none ∧ M' bc = some (.cells (cloRow bx bh bl) 48)) ∧
      Own M M' 43 2 vh (hiE c l E).length ((hiE c l E).flatMap encE) ∧ Own M M' 43 2 vl (loE c l E).length ((loE c l E).flatMap encE) := by
  have PT : Hid (∀ (M' : Mm) (w : World), Has σ M' w → M.le M' → Calls Try.prog 20 #[weaV c p e l] w fun r w' => ∃ a b M2, r = .returned (.tuple #[a, b]) ∧ Has σ M2 w' ∧ M'.le M2 ∧ Own M' M2 43 2 a (hiE c l E).length ((hiE c l E).flatMap encE) ∧ Own M' M2 43 2 b (loE c l E).length ((loE c l E).flatMap encE)) := fun M' w h hle => parted_has h c p e E (he.le hle) hE l
  have x1 := wea_all c p e l
  have hz := wea_size c p e l
  simp only [weaV] at PT ⊢
  generalize weaRow c p e l = row at *
  generalize (hiE c l E).flatMap encE = xh at *
  generalize (loE c l E).flatMap encE = xl at *
  generalize (hiE c l E).length = nh at *
  generalize (loE c l E).length = nl at *
  clear he
  go_enter Try.func16, Try.ntmps16
  go_upto_region 1 with (fail)
  obtain ⟨M2, hbx, hle2, hb1, hn1⟩ := h.box (.cells row 46)
  generalize w.alloc _ = wx at hbx ⊢
  generalize w.heap.size = b1 at hb1 hn1 ⊢
  clear h
  try clear w
  have h := hbx
  clear hbx
  obtain ⟨w, rfl⟩ : ∃ x : World, x = wx := ⟨_, rfl⟩
  have PTk := Lib.hid (fun (w : World) (h : Has σ M2 w) => PT.out M2 w h hle2)
  go_upto_region 2 with (first
    | ((with_reducible show wpList _ _ _ ({ dst := _, op := Op.load 46 _, type := _, pos := _, after := _, guard := _ } :: _) _ _); refine wpList_agg_has h rfl 46 _ rfl rfl hb1 x1 hz Try.underlying46 rfl (by kernel_rfl) ?_; try simp only [Act.put, List.setIfInBounds_toArray, List.set_cons_zero, List.set_cons_succ])
    | (go_at_call 20; refine (PTk.out _ h).mono ?_; clear h; rintro r w ⟨vh, vl, M3, rfl, h, hle3, oh, ol⟩; have ovh := oh.one; have ovl := ol.one)
    | ((with_reducible show wpList _ _ _ ({ dst := some 3, op := Op.alloc 27, type := _, pos := _, after := _, guard := _ } :: _) _ _); refine wpList_alloc_has h rfl 27 rfl _ zero_sl ?_; clear h; intro b3 w h hn3; try simp only [Act.put, List.setIfInBounds_toArray, List.set_cons_zero, List.set_cons_succ])
    | ((with_reducible show wpList _ _ _ ({ dst := some 4, op := Op.alloc 27, type := _, pos := _, after := _, guard := _ } :: _) _ _); refine wpList_alloc_has h rfl 27 rfl _ zero_sl ?_; clear h; intro b4 w h hn4; try simp only [Act.put, List.setIfInBounds_toArray, List.set_cons_zero, List.set_cons_succ])
    | ((with_reducible show wpList _ _ _ ({ dst := _, op := Op.store 27 (Operand.tmp 3) _, type := _, pos := _, after := _, guard := _ } :: _) _ _); refine wpList_store1_has h rfl 27 _ _ rfl rfl rfl ((Mm.upd_ne (Mm.ne_of hn4 (Mm.upd_same _ _ _))).trans (Mm.upd_same _ _ _)) (Nat.lt_succ_self 0) ovh (by kernel_rfl) ?_; clear h; intro w h)
    | ((with_reducible show wpList _ _ _ ({ dst := _, op := Op.store 27 (Operand.tmp 4) _, type := _, pos := _, after := _, guard := _ } :: _) _ _); refine wpList_store1_has h rfl 27 _ _ rfl rfl rfl ((Mm.upd_ne (Ne.symm (Mm.ne_of hn4 (Mm.upd_same _ _ _)))).trans (Mm.upd_same _ _ _)) (Nat.lt_succ_self 0) ovl (by kernel_rfl) ?_; clear h; intro w h))
  have n34 : b3 ≠ b4 := Mm.ne_of hn4 (Mm.upd_same _ _ _)
  have hn34 : M3 b4 = none := by rw [Mm.upd_ne (Ne.symm n34)] at hn4; exact hn4
  replace h : Has σ ((M3.upd b3 (.cells #[vh] 27)).upd b4 (.cells #[vl] 27)) w := h.less fun c x hc => by
    by_cases e4 : c = b4
    · subst e4; rw [Mm.upd_same] at hc ⊢; exact hc
    · rw [Mm.upd_ne e4] at hc ⊢
      by_cases e3 : c = b3
      · subst e3; rw [Mm.upd_same] at hc ⊢; exact hc
      · rw [Mm.upd_ne e3] at hc ⊢
        rw [Mm.upd_ne e4, Mm.upd_ne e3]; exact hc
  have le3 := Mm.le_upd' hn3 (.cells #[vh] 27)
  have hn4' : (M3.upd b3 (.cells #[vh] 27)) b4 = none := by rw [Mm.upd_ne (Ne.symm n34)]; exact hn34
  have le4 := Mm.le_upd' hn4' (.cells #[vl] 27)
  have hb3 := le4 _ _ (Mm.upd_same M3 b3 (.cells #[vh] 27))
  have hb4 := Mm.upd_same (M3.upd b3 (.cells #[vh] 27)) b4 (.cells #[vl] 27)
  have le34 := Mm.le_trans le3 le4
  generalize (M3.upd b3 (.cells #[vh] 27)).upd b4 (.cells #[vl] 27) = M6 at *
  have leM := Mm.le_trans hle2 hle3
  go_wp2
  go_ret
  have lez := Mm.le_upd' h.fresh (.cells (cloRow b1 b3 b4) 48)
  exact ⟨b1, b3, b4, _, vh, vl, _, rfl, h.alloc (.cells (cloRow b1 b3 b4) 48), Mm.le_trans leM (Mm.le_trans le34 lez), ⟨hn1, lez _ _ (le34 _ _ (hle3 _ _ hb1))⟩, ⟨Mm.none_of leM hn3, lez _ _ hb3⟩, ⟨Mm.none_of leM hn34, lez _ _ hb4⟩, ⟨Mm.none_of (Mm.le_trans leM le34) h.fresh, Mm.upd_same _ _ _⟩,
    (oh.le (Mm.le_trans le34 lez)).base fun b hb => Mm.none_of hle2 hb, (ol.le (Mm.le_trans le34 lez)).base fun b hb => Mm.none_of hle2 hb⟩
end Go.Proofs.Ytlgnknaffnnkkaa
