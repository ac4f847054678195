/- Walks of layer 22 (stock): where a thread's words are; a thread's top frame is changed. -/
import Derived.Test.YtjeeldacnllipaaGreatSpot
import Derived.Test.YtjeeldacnllipaaGreatMachE
namespace Go.Proofs.YtjeeldacnllipaaGreat
open Go.RowKit
set_option linter.unusedVariables false
set_option linter.unusedSimpArgs false
set_option linter.unnecessarySimpa false
def runC (p t q b : Nat) : Array Value := #[.pointer (some ⟨p, 0, none⟩), .int .i64 (t : Nat), .pointer (some ⟨q, 0, none⟩), .pointer (some ⟨b, 0, none⟩)]
/-- Where a place is, whatever else is known. -/
def SpotAt (σ : World) (M : Mm) (p t : Nat) (k i j r : Int) : Prop := ∀ (M' : Mm) (w : World), M.le M' → Has σ M' w → Calls Tryz.prog 120 #[.pointer (some ⟨p, 0, none⟩), .int .i64 (t : Nat), .agg #[.int .i64 0, .int .i64 k, .int .i64 i, .int .i64 j]] w fun e w' => e = .returned (.int .i64 r) ∧ Has σ M' w'
section
variable {σ w : World} {M : Mm} {p t q b : Nat}
theorem SpotAt.le {M' : Mm} {k i j r : Int} (h : SpotAt σ M p t k i j r) (hle : M.le M') : SpotAt σ M' p t k i j r := fun M2 w h2 hw => h M2 w (Mm.le_trans hle h2) hw
theorem runAt_eq (h : Has σ M w) {k i j r : Int} (SP : SpotAt σ M p t k i j r) : Calls Tryz.prog 140 #[.agg (runC p t q b), .int .i64 k, .int .i64 i, .int .i64 j] w fun e w' => e = .returned (.int .i64 r) ∧ Has σ M w' := by
  have d0 : (runC p t q b)[0]? = some (.pointer (some ⟨p, 0, none⟩)) := rfl
  have d1 : (runC p t q b)[1]? = some (.int .i64 (t : Nat)) := rfl
  go_enter Tryz.func140, Tryz.ntmps140
  go_upto_region 1 with (fail)
  obtain ⟨M1, hbx, hle, hb4, hn⟩ := h.box (.cells (runC p t q b) 190)
  generalize w.alloc _ = wx at hbx ⊢
  generalize w.heap.size = b4 at hb4 hn ⊢
  clear h
  try clear w
  have h := hbx
  clear hbx
  obtain ⟨w, rfl⟩ : ∃ x : World, x = wx := ⟨_, rfl⟩
  have SP1 := Lib.hid (fun (w : World) (h : Has σ M1 w) => SP M1 w hle h)
  clear SP
  generalize runC p t q b = rc at *
  go_wp2_with (first
    | (with_reducible show wpList _ _ _ ({ dst := _, op := Op.load 26 _, type := _, pos := _, after := _, guard := _ } :: _) _ _; refine wpList_load1_has h rfl 26 _ rfl rfl hb4 d0 Tryz.underlying26 rfl ?_)
    | (with_reducible show wpList _ _ _ ({ dst := _, op := Op.load 3 _, type := _, pos := _, after := _, guard := _ } :: _) _ _; refine wpList_load1_has h rfl 3 _ rfl rfl hb4 d1 Tryz.underlying3 rfl ?_)
    | (go_at_call 120; refine (SP1.out _ h).mono ?_; clear h; rintro _ w ⟨rfl, h⟩))
  go_ret
  exact ⟨rfl, h.le hle⟩
theorem runNode_eq (h : Has σ M w) {i j r : Int} (SP : SpotAt σ M p t 9 i j r) : Calls Tryz.prog 143 #[.agg (runC p t q b), .int .i64 i, .int .i64 j] w fun e w' => e = .returned (.int .i64 r) ∧ Has σ M w' := by
  have dx : (runC p t q b).extract 0 (0 + 4) = runC p t q b := rfl
  have dz : (runC p t q b).size = 4 := rfl
  have AT := Lib.hid (fun (M' : Mm) (w : World) (h : Has σ M' w) (hle : M.le M') => runAt_eq (q := q) (b := b) h (SP.le hle))
  clear SP
  generalize runC p t q b = rc at *
  go_enter Tryz.func143, Tryz.ntmps143
  go_upto_region 1 with (fail)
  obtain ⟨M1, hbx, hle, hb4, hn⟩ := h.box (.cells rc 190)
  generalize w.alloc _ = wx at hbx ⊢
  generalize w.heap.size = b4 at hb4 hn ⊢
  clear h
  try clear w
  have h := hbx
  clear hbx
  obtain ⟨w, rfl⟩ : ∃ x : World, x = wx := ⟨_, rfl⟩
  have AT1 := Lib.hid (fun (w : World) (h : Has σ M1 w) => AT.out M1 w h hle)
  clear AT
  go_wp2_with (first
    | ((with_reducible show wpList _ _ _ ({ dst := _, op := Op.load 190 _, type := _, pos := _, after := _, guard := _ } :: _) _ _); refine wpList_agg_has h rfl 190 _ rfl rfl hb4 dx dz Tryz.underlying190 rfl (by kernel_rfl) ?_; try simp only [Act.put, List.setIfInBounds_toArray, List.set_cons_zero, List.set_cons_succ])
    | (go_at_call 140; refine (AT1.out _ h).mono ?_; clear h; rintro _ w ⟨rfl, h⟩))
  go_ret
  exact ⟨rfl, h.le hle⟩
end
theorem nodup_last {l : List Nat} {b i : Nat} (h : (l ++ [b]).Nodup) (hi : (l ++ [b])[i]? = some b) : i = l.length := by
  rcases Nat.lt_or_ge i l.length with h1 | h1
  · rw [List.getElem?_append_left h1] at hi
    have hm : b ∈ l := List.mem_of_getElem? hi
    rw [List.nodup_append] at h
    exact absurd rfl (h.2.2 b hm b (List.mem_singleton_self b))
  · rw [List.getElem?_append_right h1] at hi
    rcases Nat.lt_or_ge (i - l.length) 1 with h2 | h2
    · omega
    · rw [List.getElem?_eq_none (by simpa using h2)] at hi; cases hi
/-- The top frame is another one: in place. -/
theorem Thr.topped {M : Mm} {lab : Nat → Nat} {t p b : Nat} {x : ThrS} {fv hv : Value} {fbs : List Nat} {fs : List FrameS} {f : FrameS} (hT : Thr M lab t p x fv hv (fbs ++ [b])) (hx : x.frames = fs ++ [f]) (f' : FrameS) :
    M b = some (.cells f.row 69) ∧ Kp (OfThr t) M lab (M.upd b (.cells f'.row 69)) lab ∧ Thr (M.upd b (.cells f'.row 69)) lab t p { x with frames := fs ++ [f'] } fv hv (fbs ++ [b]) := by
  have hfl := hT.flen
  have hlen : fbs.length = fs.length := by rw [hx] at hfl; simpa using hfl
  have hlast : (fbs ++ [b])[fbs.length]? = some b := by simp
  obtain ⟨g1, g2⟩ := hT.frame fbs.length b f hlast (by rw [hx, hlen]; simp)
  have k1 : Kp (fun j => j = 12 + 4 * t) M lab (M.upd b (.cells f'.row 69)) lab := Kp.upd g2 _
  refine ⟨g1, k1.mono fun k e => by subst e; exact ⟨by omega, by omega⟩, (k1.get hT.obj hT.mark (by omega)).1, hT.mark, hT.frow.keep k1 (by omega), ?_, hT.nodup, ?_, hT.hrow.keep k1 (by omega)⟩
  · show (fbs ++ [b]).length = (fs ++ [f']).length
    simp [hlen]
  · intro i b' f1 hb hf
    have hf : (fs ++ [f'])[i]? = some f1 := hf
    by_cases e : b' = b
    · subst e
      have hi := nodup_last hT.nodup hb
      rw [hi, hlen] at hf
      have : f' = f1 := by simpa using hf
      subst this
      exact ⟨Mm.upd_same _ _ _, g2⟩
    · have hi : i ≠ fbs.length := fun h => e (by rw [h, hlast] at hb; exact (Option.some.inj hb).symm)
      have hi2 : i < fs.length := by
        rcases Nat.lt_or_ge i fs.length with h1 | h1
        · exact h1
        · rcases Nat.lt_or_ge i (fs.length + 1) with h2 | h2
          · omega
          · rw [List.getElem?_eq_none (by simp; omega)] at hf; cases hf
      have hf2 : x.frames[i]? = some f1 := by
        rw [hx, List.getElem?_append_left hi2]
        rw [List.getElem?_append_left hi2] at hf
        exact hf
      obtain ⟨a1, a2⟩ := hT.frame i b' f1 hb hf2
      exact ⟨(Mm.upd_ne e).trans a1, a2⟩
end Go.Proofs.YtjeeldacnllipaaGreat
