/- Scripts: whether one is great; whether two are the same. -/
import Derived.Test.YtlgnknaffnnkkaaScrA
namespace Go.Proofs.Ytlgnknaffnnkkaa
open Go.RowKit
set_option linter.unusedVariables false
set_option linter.unusedSimpArgs false
set_option linter.unnecessarySimpa false

def greatB (P : Nat → List PCall) (E : List PEnt) (n : Int) : Bool := decide ((∃ t, t ∈ List.range 8 ∧ 60 < (P t).length) ∨ n < (E.length : Int))
set_option maxHeartbeats 1000000 in
theorem great_has {σ w : World} {M : Mm} (h : Has σ M w) (c : Nat → Int) (p : Nat → Value) (e : Value) (P : Nat → List PCall) (E : List PEnt) (hs : RdS M p e P E) (n : Int) :
    Calls Try.prog 5 #[scrV c p e, .int .i64 n] w fun e w' => e = .returned (.bool (greatB P E n)) ∧ Has σ M w' := by
  have HP : Hid (∀ t, t < 8 → ∃ A cap, p t = .slice A (P t).length cap) := fun t ht => (hs.progs t ht).form
  obtain ⟨A, cap, rfl⟩ := hs.ents.form
  clear hs
  have G : Hid (greatB P E n = decide ((∃ t, t ∈ List.range 8 ∧ 60 < (P t).length) ∨ n < (E.length : Int))) := rfl
  generalize greatB P E n = r at *
  have GT := Lib.hid (fun (t : Nat) (ht : t < 8) => scr_prog c p (.slice A E.length cap) ht)
  have ge := scr_ents c p (.slice A E.length cap)
  simp only [scrV]
  generalize scrRow c p (.slice A E.length cap) = row at *
  go_enter Try.func5, Try.ntmps5
  go_upto_region 1 with (fail)
  obtain ⟨M2, hbx, hle2, hb2, hn2⟩ := h.box (.cells row 29)
  generalize w.alloc _ = wx at hbx ⊢
  generalize w.heap.size = b2 at hb2 hn2 ⊢
  clear h
  try clear w
  have h := hbx
  clear hbx
  obtain ⟨w, rfl⟩ : ∃ x : World, x = wx := ⟨_, rfl⟩
  go_wp2
  go_loopw [5] (fun i wr => ∃ k : Nat, k ≤ 8 ∧ i = .int .i64 k ∧ Has σ M2 wr ∧ ∀ t, t < k → ¬ 60 < (P t).length) (fun i _ => 8 - (intOf i).toNat)
  case atStart => exact ⟨0, by omega, rfl, h, fun t ht => absurd ht (by omega)⟩
  case round =>
    clear h w
    obtain ⟨w, rfl⟩ : ∃ x : World, x = wr := ⟨_, rfl⟩
    obtain ⟨k, hk, rfl, h, hall⟩ := hrel
    have HA := Lib.hid hall
    clear hall
    by_cases hlt : k < 8
    · have g := GT.out k hlt
      obtain ⟨B, cb, hp⟩ := HP.out k hlt
      rw [hp] at g
      have LN := Lib.hid (show (P k).length = (P k).length from rfl)
      by_cases h60 : 60 < (P k).length
      · have F : Hid (r = true) := by rw [G.out]; exact decide_eq_true (.inl ⟨k, List.mem_range.2 hlt, h60⟩)
        generalize (P k).length = m at g h60
        clear HA LN
        go_wp2_with (first
          | (with_reducible show wpList _ _ _ ({ dst := _, op := Op.load 25 _, type := _, pos := _, after := _, guard := _ } :: _) _ _; refine wpList_load1_has h rfl 25 _ rfl rfl hb2 g Try.underlying25 rfl ?_))
        go_ret
        exact ⟨by rw [F.out]; rfl, h.le hle2⟩
      · have HA2 : Hid (∀ t, t < k + 1 → ¬ 60 < (P t).length) := fun t ht => by
          rcases Nat.lt_or_ge t k with h1 | h1
          · exact HA.out t h1
          · obtain rfl : t = k := by omega
            exact h60
        generalize (P k).length = m at g h60
        clear HA LN
        go_wp2_with (first
          | (with_reducible show wpList _ _ _ ({ dst := _, op := Op.load 25 _, type := _, pos := _, after := _, guard := _ } :: _) _ _; refine wpList_load1_has h rfl 25 _ rfl rfl hb2 g Try.underlying25 rfl ?_))
        go_roundw
        case rel => exact ⟨k + 1, by omega, by go_num, h, HA2.out⟩
        case measure => simp [intOf]; omega
    · have F : Hid (r = decide (n < (E.length : Int))) := by
        rw [G.out]
        congr 1
        simp only [eq_iff_iff]
        constructor
        · rintro (⟨t, ht, h1⟩ | h1)
          · exact absurd h1 (HA.out t (by have := List.mem_range.1 ht; omega))
          · exact h1
        · exact .inr
      clear HA GT HP G
      go_wp2_with (first
        | (with_reducible show wpList _ _ _ ({ dst := _, op := Op.load 27 _, type := _, pos := _, after := _, guard := _ } :: _) _ _; refine wpList_load1_has h rfl 27 _ rfl rfl hb2 ge Try.underlying27 rfl ?_))
      go_ret
      exact ⟨by rw [F.out]; rfl, h.le hle2⟩

def callKs : List Kd := [some (some .i64), some (some .i64), some (some .i64), some (some .u64), some (some .u64), some (some .u64), some (some .i64)]
def entKs : List Kd := [some (some .i64), some (some .i64)]
theorem fits_call (x : PCall) : fits callKs (encK x).toArray.toList := ⟨rfl, rfl, rfl, rfl, rfl, rfl, rfl, trivial⟩
theorem fits_ent (x : PEnt) : fits entKs (encE x).toArray.toList := ⟨rfl, rfl, trivial⟩
theorem same_call (x : PCall) : sames (encK x).toArray.toList (encK x).toArray.toList = true := sames_refl (fits_call x)
theorem same_ent (x : PEnt) : sames (encE x).toArray.toList (encE x).toArray.toList = true := sames_refl (fits_ent x)

set_option maxHeartbeats 1000000 in
theorem calls_true {σ w : World} {M : Mm} (h : Has σ M w) (a b : Value) (l : List PCall) (ha : Rd M 7 a l.length (l.flatMap encK)) (hb : Rd M 7 b l.length (l.flatMap encK)) (hn : l.length ≤ 1000000) :
    Calls Try.prog 17 #[a, b] w fun e w' => e = .returned (.bool true) ∧ Has σ M w' := by
  obtain ⟨A, c, rfl⟩ := ha.form
  obtain ⟨B, d, rfl⟩ := hb.form
  obtain ⟨n, hl⟩ : ∃ n, l.length = n := ⟨_, rfl⟩
  rw [hl] at ha hb hn ⊢
  have HL := Lib.hid hl
  clear hl
  go_enter Try.func17, Try.ntmps17
  go_wp2
  go_loopw [5] (fun i wr => ∃ k : Nat, k ≤ n ∧ i = .int .i64 k ∧ Has σ M wr) (fun i _ => n - (intOf i).toNat)
  case atStart => exact ⟨0, by omega, rfl, h⟩
  case round =>
    clear h w
    obtain ⟨w, rfl⟩ : ∃ x : World, x = wr := ⟨_, rfl⟩
    obtain ⟨k, hk, rfl, h⟩ := hrel
    by_cases hlt : k < n
    · obtain ⟨x, hx⟩ : ∃ x, l[k]? = some x := ⟨_, List.getElem?_eq_getElem (by rw [HL.out]; exact hlt)⟩
      obtain ⟨b1, o1, c1, cs1, t1, f1, e1, hM1, hx1⟩ := ha.elem encK_len hlt hx
      obtain ⟨b2, o2, c2, cs2, t2, f2, e2, hM2, hx2⟩ := hb.elem encK_len hlt hx
      cases e1
      cases e2
      have hc1 := extract_of hx1 (encK_len x)
      have hc2 := extract_of hx2 (encK_len x)
      have SC := Lib.hid (same_call x)
      have FT := Lib.hid (fits_call x)
      generalize (encK x).toArray = row at *
      have hz : row.size = 7 := by
        have := fits_length FT.out
        simpa [callKs] using this
      clear hx1 hx2 hx
      go_upto_region 6 with (fail)
      refine wp_region_class (Has σ M) (by kernel_rfl) (by kernel_rfl) h.drew ?_
      clear h
      repeat (first
        | go_big_quiet_skip
        | (go_big_quiet_want; first
          | (refine quiet_agg_has 55 _ rfl rfl hM1 hc1 hz Try.underlying55 rfl (by kernel_rfl) ?_; simp only [Act.put, List.setIfInBounds_toArray, List.set_cons_zero, List.set_cons_succ]; go_big_quiet_on)
          | (refine quiet_agg_has 55 _ rfl rfl hM2 hc2 hz Try.underlying55 rfl (by kernel_rfl) ?_; simp only [Act.put, List.setIfInBounds_toArray, List.set_cons_zero, List.set_cons_succ]; go_big_quiet_on)
          | (refine quiet_neq_flat 55 _ _ _ rfl rfl rfl 10 (by omega) (ks := callKs) (by kernel_rfl) rfl (by kernel_rfl) Try.underlying55 rfl (by kernel_rfl) FT.out FT.out ?_; rw [SC.out]; simp only [Act.put, List.setIfInBounds_toArray, List.set_cons_zero, List.set_cons_succ]; go_big_quiet_on)
          | (go_big_quiet_op; first | go_big_quiet_on | go_big_quiet_call (first | with_reducible exact fun _ => rfl))))
      refine wpQuiet_nil ?_
      try clear w
      intro w h
      go_wp2
      go_roundw
      case rel => exact ⟨k + 1, by omega, by go_num, h⟩
      case measure => simp [intOf]; omega
    · go_wp2
      go_ret
      exact ⟨rfl, h⟩
end Go.Proofs.Ytlgnknaffnnkkaa
