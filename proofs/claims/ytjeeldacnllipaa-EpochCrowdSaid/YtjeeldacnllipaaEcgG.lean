/- Law 23, EpochCrowd: plain: registers; the law's own rows; a crowd's threads go on alone to their ends. -/
import Derived.Test.YtjeeldacnllipaaMachT
import Derived.Test.YtjeeldacnllipaaEcgA
import Derived.Test.YtjeeldacnllipaaEcgD
import Derived.Test.YtjeeldacnllipaaConfLevel
import Derived.Test.YtjeeldacnllipaaEcgC
namespace Go.Proofs.Ytjeeldacnllipaa
section
open Go.RowKit
set_option linter.unusedVariables false
set_option linter.unusedSimpArgs false
set_option linter.unnecessarySimpa false
section
variable {α : Type} {sz : Nat} {enc : α → List Value}
theorem flat_split (L : List α) {k : Nat} (hk : k < L.length) : L.flatMap enc = (L.take k).flatMap enc ++ enc L[k] ++ (L.drop (k + 1)).flatMap enc := by
  rw [List.append_assoc, ← List.flatMap_cons, ← List.flatMap_append, ← List.drop_eq_getElem_cons hk, List.take_append_drop]
theorem flat_set (L : List α) {k : Nat} (hk : k < L.length) (y : α) : (L.set k y).flatMap enc = (L.take k).flatMap enc ++ enc y ++ (L.drop (k + 1)).flatMap enc := by
  rw [List.set_eq_take_append_cons_drop, if_pos hk]
  simp [List.flatMap_append]
end
/-- One element of a row of the call's own is stored. -/
theorem Own.putRow {α : Type} {enc : α → List Value} {σ w : World} {M0 M : Mm} {e : TypeId} {sz n g cap : Nat} {L : List α} (hen : ∀ x, (enc x).length = sz) (h : Has σ M w) (hle : M0.le M) (hown : Own M0 M e sz (.slice (some ⟨g, 0, none⟩) n cap) n (L.flatMap enc)) {k : Nat} (hk : k < L.length) (y : α) (hL : L.length = n) :
    ∃ M', Has σ M' (w.setCells g (k * sz) (enc y)) ∧ M0.le M' ∧ Own M0 M' e sz (.slice (some ⟨g, 0, none⟩) n cap) n ((L.set k y).flatMap enc) := by
  obtain ⟨hl, ⟨hv, _⟩ | ⟨g', cap', cur, hv, hg, hh, hc, hm, hs, ht⟩⟩ := hown
  · cases hv
  · cases hv
    have hcur : cur.toList = (L.take k).flatMap enc ++ enc L[k] ++ ((L.drop (k + 1)).flatMap enc ++ cur.toList.drop (n * sz)) := by
      conv => lhs; rw [← List.take_append_drop (n * sz) cur.toList, ht, flat_split L hk]
      simp
    have hB : Blk w g cur e := h.at_ g _ hh
    have hlen : ((L.take k).flatMap enc).length = k * sz := by
      rw [flat_length hen, List.length_take, Nat.min_eq_left (by omega)]
    have hB' : Blk w g ((L.take k).flatMap enc ++ enc L[k] ++ ((L.drop (k + 1)).flatMap enc ++ cur.toList.drop (n * sz))).toArray e := by
      rw [← hcur]
      simpa using hB
    have hx := blk_setCells g e (enc y) (k * sz) w ((L.take k).flatMap enc) (enc L[k]) ((L.drop (k + 1)).flatMap enc ++ cur.toList.drop (n * sz)) hlen (by rw [hen, hen]) hB'
    have hlen' : ((L.set k y).flatMap enc).length = n * sz := by rw [flat_length hen, List.length_set, hL]
    refine ⟨_, h.put (only_setCells g _ _ w) hx, Mm.le_upd hle hg _, hlen', .inr ⟨g, cap, _, rfl, hg, Mm.upd_same _ _ _, hc, hm, ?_, ?_⟩⟩
    · have h1 : cur.toList.length = cap * sz := by simpa using hs
      rw [hcur] at h1
      simp only [List.length_append, hen] at h1
      simp only [List.size_toArray, List.length_append, hen]
      exact h1
    · rw [flat_set L hk] at hlen' ⊢
      rw [← hlen']
      simp only [← List.append_assoc]
      rw [List.take_left]
section
variable {P : Program} {ops : Array Oper} {rest : List Oper} {op : Oper} {a : Act} {σ w : World} {M M0 : Mm} {Q : Exit → Act → World → Prop}
theorem wpList_putRow {α : Type} {enc : α → List Value} {e : TypeId} {sz n g cap : Nat} {L : List α} (hen : ∀ x, (enc x).length = sz) (h : Has σ M w) (hle : M0.le M) (hown : Own M0 M e sz (.slice (some ⟨g, 0, none⟩) n cap) n (L.flatMap enc)) (hL : L.length = n)
    (hgd : op.guard = none) (t : TypeId) (x y : Operand) (ho : op.op = .store t x y) (hdst : op.dst = none) {k : Nat} (hx : a.eval x = .pointer (some ⟨g, k * sz, none⟩)) {cells : Array Value} (hy : a.eval y = .agg cells) (hk : k < n) (z : α) (hz : cells.toList = enc z) (h1 : ∀ u ∈ enc z, u.oneCell' = true)
    (hi : (P.info? t).map (·.size) = some sz)
    (hK : ∀ w' M', Has σ M' w' → M0.le M' → Own M0 M' e sz (.slice (some ⟨g, 0, none⟩) n cap) n ((L.set k z).flatMap enc) → wpList P ops Q rest a w') : wpList P ops Q (op :: rest) a w := by
  obtain ⟨M', hh, hle', hown'⟩ := Own.putRow hen h hle hown (k := k) (by omega) z hL
  have hsz : cells.size = sz := by have := congrArg List.length hz; simpa [hen] using this
  refine wpList_store_mid hgd t x y ho g (k * sz) cells hx hy ?_ (by rw [hi, hsz]) (by rw [Array.all_eq_true_iff_forall_mem]; exact fun u hu => h1 u (by rw [← hz]; simpa using hu)) ?_
  · intro j hj
    obtain ⟨_, ⟨hv, _⟩ | ⟨g', cap', cur, hv, hg, hM, hc, hm, hs, ht⟩⟩ := hown
    · cases hv
    · cases hv
      have : k * sz + j < cur.size := by
        rw [hs]
        have : (k + 1) * sz ≤ cap * sz := Nat.mul_le_mul_right _ (by omega)
        rw [Nat.add_mul, Nat.one_mul] at this
        omega
      exact ⟨by rw [h.cell hM, Array.getElem?_eq_getElem this]; rfl, h.free hM _⟩
  · rw [hdst, hz]
    exact hK _ _ hh hle' hown'
/-- One cell of a row of the call's own is stored. -/
theorem wpList_putOne {e : TypeId} {n g cap : Nat} {xs : List Value} (h : Has σ M w) (hle : M0.le M) (hown : Own M0 M e 1 (.slice (some ⟨g, 0, none⟩) n cap) n xs)
    (hgd : op.guard = none) (t : TypeId) (x y : Operand) (ho : op.op = .store t x y) (hdst : op.dst = none) {k : Nat} (hx : a.eval x = .pointer (some ⟨g, k, none⟩)) (hk : k < n) {u : Value} (hy : a.eval y = u) (h1 : u.oneCell' = true) (hi : (P.info? t).map (·.size) = some 1)
    (hK : ∀ w' M', Has σ M' w' → M0.le M' → Own M0 M' e 1 (.slice (some ⟨g, 0, none⟩) n cap) n (xs.set k u) → wpList P ops Q rest a w') : wpList P ops Q (op :: rest) a w := by
  obtain ⟨cur, hg, hlt, hown', hng⟩ := hown.put k u
  refine wpList_store1_has h (by simp [Region.wanted, hgd]) t x y ho hdst hx hg (by omega) (by rw [hy]; exact h1) hi ?_
  intro w' h'
  rw [hy] at h'
  exact hK w' _ h' (Mm.le_upd hle hng _) hown'
end
def learn (K M M' : Mm) : Mm := fun c => match M c with | none => M' c | some _ => K c
def stable (K : Mm) (labK : Nat → Nat) : Mm := fun c => if labK c = 0 then K c else none
/-- What is known, but for a row of the law's. -/
def outK (K M : Mm) (labK : Nat → Nat) (j : Nat) : Mm := fun c => match K c with | none => M c | some _ => if labK c = j then none else M c
section
variable {K M M' K' : Mm} {lab lab' labK labK' : Nat → Nat} {p n sz j : Nat} {s : MachS} {e : TypeId} {v : Value} {xs : List Value}
theorem Mach.learn (hM : Mach M lab p s) (hB : Base K M lab) (hle : M.le M') : ∃ lab', Mach M' lab' p s ∧ Base (learn K M M') M' lab' :=
  hM.more hB hle fun c o hc => by
    unfold Go.Proofs.Ytjeeldacnllipaa.learn at hc
    cases hm : M c with
    | none => rw [hm] at hc; exact ⟨hc, .inr rfl⟩
    | some x => rw [hm] at hc; exact ⟨hle _ _ (hB c o hc).1, .inl hc⟩
theorem learn_kp (hB : K.le M) (M' : Mm) (labK : Nat → Nat) : Kp Non K labK (learn K M M') (relab K labK fun _ => 0) := fun c o hc _ => by
  unfold learn relab
  rw [hB c o hc, hc]
  exact ⟨rfl, rfl⟩
theorem learn_rd (hB : K.le M) (labK : Nat → Nat) (ho : Own M M' e sz v n xs) : Rd (stable (learn K M M') (relab K labK fun _ => 0)) sz v n xs :=
  ho.rd_in fun c x hn hx => by
    have hk : K c = none := by
      cases h : K c with
      | none => rfl
      | some o => rw [hB c o h] at hn; cases hn
    unfold stable learn relab
    rw [hn, hk]
    exact hx
theorem stable_le (K : Mm) (labK : Nat → Nat) : (stable K labK).le K := fun c o h => by unfold stable at h; split at h; exact h; cases h
theorem stable_kp {A : Nat → Prop} (h : Kp A K labK K' labK') (hA : ¬ A 0) : (stable K labK).le (stable K' labK') := fun c o hc => by
  unfold stable at hc ⊢
  split at hc
  · rename_i h0
    obtain ⟨a, b⟩ := h.get hc h0 hA
    rw [if_pos b]; exact a
  · cases hc
theorem outK_le (K M : Mm) (labK : Nat → Nat) (j : Nat) : (outK K M labK j).le M := fun c o h => by
  unfold outK at h
  split at h
  · exact h
  · split at h
    · cases h
    · exact h
theorem outK_of {c : Nat} {o : Obj} (hB : K.le M) (hc : K c = some o) (hl : labK c ≠ j) : outK K M labK j c = some o := by
  unfold outK
  rw [hc]
  simp only [if_neg hl]
  exact hB _ _ hc
theorem Row.up (h : Row K labK j e sz v n xs) (hB : K.le M) : Own (outK K M labK j) M e sz v n xs := by
  obtain ⟨hl, ⟨hv, h0⟩ | ⟨g, cap, cur, hv, hg, hh, r⟩⟩ := h
  · exact ⟨hl, .inl ⟨hv, h0⟩⟩
  · have hgk : labK g = j := by
      by_cases e : labK g = j
      · exact e
      · rw [Mm.out_of hh e] at hg; cases hg
    refine ⟨hl, .inr ⟨g, cap, cur, hv, ?_, hB _ _ hh, r⟩⟩
    unfold outK
    rw [hh]
    simp only [if_pos hgk]
/-- A row of the law's is another one. -/
theorem Mach.rowTo (hM : Mach M lab p s) (hB : Base K M lab) (hle : (outK K M labK j).le M') (ho : Own (outK K M labK j) M' e sz v n xs) : ∃ lab' K' labK', Mach M' lab' p s ∧ Base K' M' lab' ∧ Kp (fun k => k = j) K labK K' labK' ∧ Row K' labK' j e sz v n xs := by
  have hO : ∀ c o, K c = some o → labK c ≠ j → outK K M labK j c = some o := fun c o hc hl => outK_of hB.le hc hl
  have hMO : ∀ c o, M c = some o → lab c ≠ 0 → outK K M labK j c = some o := fun c o hc hl => by
    have hk : K c = none := by
      cases h : K c with
      | none => rfl
      | some x => exact absurd (hB c x h).2 hl
    unfold outK
    rw [hk]
    exact hc
  obtain ⟨hl, ⟨hv, h0⟩ | ⟨g, cap, cur, hv, hg, hh, r⟩⟩ := ho
  · refine ⟨lab, K.out labK j, labK, hM.keep (A := fun k => k = 0) (fun c o hc hA => ⟨hle _ _ (hMO c o hc hA), rfl⟩) (fun k hk => by omega), fun c o hc => ?_, fun c o hc hA => ⟨Mm.out_of hc hA, rfl⟩, hl, .inl ⟨hv, h0⟩⟩
    have hl2 : labK c ≠ j := fun e => by rw [Mm.out_none e] at hc; cases hc
    have hc2 := Mm.out_le _ _ _ _ _ hc
    exact ⟨hle _ _ (hO c o hc2 hl2), (hB c o hc2).2⟩
  · have hne : ∀ c o, outK K M labK j c = some o → c ≠ g := fun c o hc e => by subst e; rw [hc] at hg; cases hg
    refine ⟨fun c => if c = g then 0 else lab c, fun c => if c = g then M' g else K.out labK j c, fun c => if c = g then j else labK c, hM.keep (A := fun k => k = 0) (fun c o hc hA => ⟨hle _ _ (hMO c o hc hA), if_neg (hne c o (hMO c o hc hA))⟩) (fun k hk => by omega), fun c o hc => ?_, fun c o hc hA => ?_, hl, .inr ⟨g, cap, cur, hv, ?_, ?_, r⟩⟩
    · by_cases h1 : c = g
      · subst h1; simp only [if_true] at hc ⊢; exact ⟨hc, trivial⟩
      · simp only [if_neg h1] at hc ⊢
        have hl2 : labK c ≠ j := fun e => by rw [Mm.out_none e] at hc; cases hc
        have hc2 := Mm.out_le _ _ _ _ _ hc
        exact ⟨hle _ _ (hO c o hc2 hl2), (hB c o hc2).2⟩
    · have h1 := hne c o (hO c o hc hA)
      simp only [if_neg h1]
      exact ⟨Mm.out_of hc hA, trivial⟩
    · exact Mm.out_none (by simp)
    · simp only [if_true]; exact hh
end
end
section
open Go.RowKit
set_option linter.unusedVariables false
set_option linter.unusedSimpArgs false
set_option linter.unnecessarySimpa false
def enc2 (x : Int × Int) : List Value := [.int .i64 x.1, .int .i64 x.2]
/-- One element of a row of the call's own is stored, at a step of a region that draws. -/
theorem step_putRow {P : Program} {op : Oper} {a : Act} {ops : Array Oper} {σ w : World} {M M0 : Mm} {Q : Exit → Act → World → Prop} {K : Act → World → Prop} {E : Prop} {α : Type} {enc : α → List Value} {e : TypeId} {sz n g cap : Nat} {L : List α} (hen : ∀ x, (enc x).length = sz) (h : Has σ M w) (hle : M0.le M) (hown : Own M0 M e sz (.slice (some ⟨g, 0, none⟩) n cap) n (L.flatMap enc)) (hL : L.length = n)
    (hgd : op.guard = none) (t : TypeId) (x y : Operand) (ho : op.op = .store t x y) (hdst : op.dst = none) {k : Nat} (hx : a.eval x = .pointer (some ⟨g, k * sz, none⟩)) {cells : Array Value} (hy : a.eval y = .agg cells) (hk : k < n) (z : α) (hz : cells.toList = enc z) (h1 : ∀ u ∈ enc z, u.oneCell' = true)
    (hi : (P.info? t).map (·.size) = some sz)
    (hK : ∀ w' M', Has σ M' w' → M0.le M' → Own M0 M' e sz (.slice (some ⟨g, 0, none⟩) n cap) n ((L.set k z).flatMap enc) → K a w') : if Region.wanted op (yielded ops a.tmps) = true then Oper.wp P op a w K Q else E := by
  have hw : Region.wanted op (yielded ops a.tmps) = true := by simp [Region.wanted, hgd]
  rw [if_pos hw]
  obtain ⟨M', hh, hle', hown'⟩ := Own.putRow hen h hle hown (k := k) (by omega) z hL
  have hsz : cells.size = sz := by have := congrArg List.length hz; simpa [hen] using this
  refine wp_store_mid t x y ho g (k * sz) cells hx hy ?_ (by rw [hi, hsz]) (by rw [Array.all_eq_true_iff_forall_mem]; exact fun u hu => h1 u (by rw [← hz]; simpa using hu)) ?_
  · intro j hj
    obtain ⟨_, ⟨hv, _⟩ | ⟨g', cap', cur, hv, hg, hM, hc, hm, hs, ht⟩⟩ := hown
    · cases hv
    · cases hv
      have : k * sz + j < cur.size := by
        rw [hs]
        have : (k + 1) * sz ≤ cap * sz := Nat.mul_le_mul_right _ (by omega)
        rw [Nat.add_mul, Nat.one_mul] at this
        omega
      exact ⟨by rw [h.cell hM, Array.getElem?_eq_getElem this]; rfl, h.free hM _⟩
  · rw [hdst, hz]
    exact hK _ _ hh hle' hown'
theorem natv_erase (l : List Nat) (k : Nat) : natv (l.eraseIdx k) = (natv l).take k ++ (natv l).drop (k + 1) := by
  unfold natv
  rw [List.eraseIdx_eq_take_drop_succ, List.map_append, List.map_take, List.map_drop]
theorem outK_self {K M : Mm} {labK : Nat → Nat} {j : Nat} (h : ∀ c o, K c = some o → labK c ≠ j) : outK K M labK j = M := by
  funext c
  unfold outK
  cases e : K c with
  | none => rfl
  | some o => simp only [if_neg (h c o e)]
theorem stable_outK {K M : Mm} {labK : Nat → Nat} {j : Nat} (hB : K.le M) (hj : j ≠ 0) : (stable K labK).le (outK K M labK j) := fun c o h => by
  unfold stable at h
  split at h
  · next hl => exact outK_of hB h (by rw [hl]; exact Ne.symm hj)
  · cases h
end
section
open Go.RowKit
set_option linter.unusedVariables false
set_option linter.unusedSimpArgs false
section
variable {P : Program} {op : Oper} {a : Act} {ops : Array Oper} {σ w : World} {M M0 : Mm} {Q : Exit → Act → World → Prop} {K : Act → World → Prop} {E : Prop}
/-- A variable is made, at a step of a region that draws. -/
theorem step_alloc (h : Has σ M w) (hg : op.guard = none) (t : TypeId) (ho : op.op = .alloc t) (z : Value) (hz : (P.info? t).bind (·.zero) = some z)
    (hk : ∀ b w', Has σ (M.upd b (.cells z.cells t)) w' → M b = none → K (a.put op.dst (.pointer (some ⟨b, 0, none⟩))) w') : if Region.wanted op (yielded ops a.tmps) = true then Oper.wp P op a w K Q else E := by
  have hw : Region.wanted op (yielded ops a.tmps) = true := by simp [Region.wanted, hg]
  rw [if_pos hw]
  cases hi : P.info? t with
  | none => simp [hi] at hz
  | some i =>
    have hz : i.zero = some z := by simpa [hi] using hz
    unfold Oper.wp execOp
    simp [ho, Instr.alloc, zeroValue, typeInfo, hi, hz, newVar, newRow, Sem.run_bind, Sem.run_pure, Result.andThen_ok]
    exact hk w.heap.size (w.alloc (.cells z.cells t)) (h.alloc _) h.fresh
/-- One cell of a row of the call's own is stored, at a step of a region that draws. -/
theorem step_putOne {e : TypeId} {n g cap : Nat} {xs : List Value} (h : Has σ M w) (hle : M0.le M) (hown : Own M0 M e 1 (.slice (some ⟨g, 0, none⟩) n cap) n xs)
    (hgd : op.guard = none) (t : TypeId) (x y : Operand) (ho : op.op = .store t x y) (hdst : op.dst = none) {k : Nat} (hx : a.eval x = .pointer (some ⟨g, k, none⟩)) (hk : k < n) {u : Value} (hy : a.eval y = u) (h1 : u.oneCell' = true) (hi : (P.info? t).map (·.size) = some 1)
    (hK : ∀ w' M', Has σ M' w' → M0.le M' → Own M0 M' e 1 (.slice (some ⟨g, 0, none⟩) n cap) n (xs.set k u) → K a w') : if Region.wanted op (yielded ops a.tmps) = true then Oper.wp P op a w K Q else E := by
  obtain ⟨cur, hg, hlt, hown', hng⟩ := hown.put k u
  exact step_store1 h hgd t x y ho hdst hx hg (by omega) hy h1 hi fun w' h' => hK w' _ h' (Mm.le_upd hle hng _) hown'
/-- append of a literal made just now, at a step of a region that draws. -/
theorem step_applit {M0 : Mm} {w1 : World} {row : Array Value} {e' : TypeId} (h : Has σ M w) (hle : M0.le M) (hg : op.guard = none) (s x : Operand) (t : TypeId)
    (ho : op.op = .call { callee := .builtin .append, args := #[s, x], argTypes := #[t, t] })
    (hww : w1 = w.alloc (.cells row e'))
    {e : TypeId} {z : Value} {size bytes : Nat} (ht : P.underlying t = some (.slice e)) (hi : (P.info? e).map (fun i => (i.zero, i.size, i.bytes)) = some (some z, size, bytes)) (hzs : z.cells.size = size) (hsz : 0 < size)
    {v : Value} {n : Nat} {xs : List Value} (hs : a.eval s = v) (hown : Own M0 M e size v n xs) {m : Nat} (hx : a.eval x = .slice (some ⟨w.heap.size, 0, none⟩) m m) (hl : row.size = m * size) (h1 : row.toList.all (·.oneCell') = true)
    (h63 : n + m ≤ 140737488355328) (hbytes : (n + m) * bytes ≤ 140737488355328)
    (hk : ∀ v' w', Acc σ M0 w' e size v' (n + m) (xs ++ row.toList) → K (a.put op.dst v') w') : if Region.wanted op (yielded ops a.tmps) = true then Oper.wp P op a w1 K Q else E := by
  have hw : Region.wanted op (yielded ops a.tmps) = true := by simp [Region.wanted, hg]
  rw [if_pos hw]
  subst hww
  obtain ⟨i, hi1, hz, hsize, hby⟩ := info_parts hi
  have hc : ∀ j x, row.toList[j]? = some x → (w.alloc (.cells row e')).cell? ((⟨w.heap.size, 0, none⟩ : Addr).add j) = some x := fun j x hx => by
    rw [Addr.add_mid, Nat.zero_add, cell_of_row _ _ j row e' (0, 0) (heap_alloc_new w _)]
    simpa using hx
  obtain ⟨v', w', hr, M', hH, hl', hO, _⟩ := run_append_own_has (P := P) (h.quietAlloc (.cells row e')) hle t op.type e i z size bytes ht hi1 hz hsize hby hzs hsz hown (.slice (some ⟨w.heap.size, 0, none⟩) m m) (m := m) (news := row.toList)
    (.inr ⟨_, _, rfl, hc⟩) (by simpa using hl) (fun u hu => (List.all_eq_true.1 h1) u hu) (by unfold maxLen; omega) hbytes
  unfold Oper.wp execOp
  simp only [ho, resolve, invoke, builtin, Sem.run_bind, Sem.run_pure, Result.andThen_ok, List.map_toArray, List.map_cons, List.map_nil, hs, hx, hr]
  exact hk v' w' ⟨M', hH, hl', hO⟩
end
/-- One block is known, and no other. -/
def Mm.one (b : Nat) (o : Obj) : Mm := fun c => if c = b then some o else none
theorem Mm.one_get (b : Nat) (o : Obj) : Mm.one b o b = some o := if_pos rfl
theorem Mm.one_le {b : Nat} {o : Obj} {M : Mm} (h : M b = some o) : (Mm.one b o).le M := fun c o' hc => by
  unfold Mm.one at hc
  split at hc
  · next e => subst e; cases hc; exact h
  · cases hc
end
section
open Go.RowKit
set_option linter.unusedVariables false
set_option linter.unusedSimpArgs false
set_option linter.unnecessarySimpa false
section
variable {P : Program} {ops : Array Oper} {rest : List Oper} {op : Oper} {a : Act} {σ w : World} {M M0 : Mm} {Q : Exit → Act → World → Prop}
theorem wpList_putCell {e : TypeId} {sz n g cap : Nat} {xs : List Value} (h : Has σ M w) (hle : M0.le M) (hown : Own M0 M e sz (.slice (some ⟨g, 0, none⟩) n cap) n xs)
    (hgd : op.guard = none) (t : TypeId) (x y : Operand) (ho : op.op = .store t x y) (hdst : op.dst = none) {k : Nat} (hx : a.eval x = .pointer (some ⟨g, k, none⟩)) (hk : k < n * sz) {u : Value} (hy : a.eval y = u) (h1 : u.oneCell' = true) (hi : (P.info? t).map (·.size) = some 1)
    (hK : ∀ w' M', Has σ M' w' → M0.le M' → Own M0 M' e sz (.slice (some ⟨g, 0, none⟩) n cap) n (xs.set k u) → wpList P ops Q rest a w') : wpList P ops Q (op :: rest) a w := by
  obtain ⟨cur, hg, hlt, hown', hng⟩ := hown.put k u
  refine wpList_store1_has h (by simp [Region.wanted, hgd]) t x y ho hdst hx hg (by omega) (by rw [hy]; exact h1) hi ?_
  intro w' h'
  rw [hy] at h'
  exact hK w' _ h' (Mm.le_upd hle hng _) hown'
end
section
variable {P : Program} {op : Oper} {a : Act} {ops : Array Oper} {σ w : World} {M M0 : Mm} {Q : Exit → Act → World → Prop} {K : Act → World → Prop} {E : Prop}
theorem step_putCell {e : TypeId} {sz n g cap : Nat} {xs : List Value} (h : Has σ M w) (hle : M0.le M) (hown : Own M0 M e sz (.slice (some ⟨g, 0, none⟩) n cap) n xs)
    (hgd : op.guard = none) (t : TypeId) (x y : Operand) (ho : op.op = .store t x y) (hdst : op.dst = none) {k : Nat} (hx : a.eval x = .pointer (some ⟨g, k, none⟩)) (hk : k < n * sz) {u : Value} (hy : a.eval y = u) (h1 : u.oneCell' = true) (hi : (P.info? t).map (·.size) = some 1)
    (hK : ∀ w' M', Has σ M' w' → M0.le M' → Own M0 M' e sz (.slice (some ⟨g, 0, none⟩) n cap) n (xs.set k u) → K a w') : if Region.wanted op (yielded ops a.tmps) = true then Oper.wp P op a w K Q else E := by
  obtain ⟨cur, hg, hlt, hown', hng⟩ := hown.put k u
  exact step_store1 h hgd t x y ho hdst hx hg (by omega) hy h1 hi fun w' h' => hK w' _ h' (Mm.le_upd hle hng _) hown'
end
/-- A row of numbers, as cells. -/
def intsL (k : IntKind) (n : Nat) (X : Nat → Int) : List Value := (ints k n X).toList
theorem intsL_len (k : IntKind) (n : Nat) (X : Nat → Int) : (intsL k n X).length = n := by unfold intsL; rw [Array.length_toList, ints_size]
theorem intsL_get {k : IntKind} {n : Nat} {X : Nat → Int} {i : Nat} (h : i < n) : (intsL k n X)[i]? = some (.int k (X i)) := by
  unfold intsL
  rw [Array.getElem?_toList, ints_get h]
theorem intsL_set (k : IntKind) (n : Nat) (X : Nat → Int) (i : Nat) (v : Int) : (intsL k n X).set i (.int k v) = intsL k n (upd X i v) := by
  unfold intsL
  rw [← Array.toList_setIfInBounds, ints_set]
/-- A part of a row of numbers. -/
theorem ints_part {cur : Array Value} {k : IntKind} {n m s : Nat} {X Y : Nat → Int} (hc : ∀ (j : Nat) (u : Value), (intsL k n X)[j]? = some u → cur[j]? = some u) (hs : s + m ≤ n) (hY : ∀ j, j < m → X (s + j) = Y j) : cur.extract s (s + m) = ints k m Y := by
  have hh : ∀ (j : Nat) (u : Value), (ints k m Y).toList[j]? = some u → cur[s + j]? = some u := fun j u hu => by
    rw [Array.getElem?_toList] at hu
    have hj : j < m := by
      have := (Array.getElem?_eq_some_iff.1 hu).1
      rwa [ints_size] at this
    rw [ints_get hj] at hu
    cases hu
    rw [← hY j hj]
    exact hc _ _ (intsL_get (by omega))
  have := extract_of hh (n := m) (by rw [Array.length_toList, ints_size])
  rw [this]
theorem made_zero (k : IntKind) (m n : Nat) (hm : 0 < m) : madeCells (ints k m fun _ => 0) (n * m) = ints k (n * m) fun _ => 0 := by
  apply Array.ext_getElem?
  intro i
  unfold madeCells
  by_cases hi : i < n * m
  · rw [ints_get hi]
    have h2 : i % m < m := Nat.mod_lt _ hm
    have h3 : (ints k m fun _ => (0 : Int))[i % m]? = some (.int k 0) := ints_get h2
    rw [ints_size, Array.getElem?_map, Array.getElem?_range, if_pos hi, Option.map_some, Option.some.injEq]
    rw [getElem!_pos (ints k m fun _ => (0 : Int)) (i % m) (by rw [ints_size]; exact h2)]
    exact (Array.getElem?_eq_some_iff.1 h3).2
  · rw [Array.getElem?_eq_none (by simp; omega), Array.getElem?_eq_none (by rw [ints_size]; omega)]
end
section
open Go.RowKit
set_option linter.unusedVariables false
set_option linter.unusedSimpArgs false
set_option linter.unnecessarySimpa false
set_option maxHeartbeats 2000000 in
theorem refLevel_has {σ w : World} {M : Mm} (h : Has σ M w) (c : Nat → Int) (t : Int) : Calls Try.prog 33 #[confV c, .int .i64 t] w fun e w' => e = .returned (.int .i64 (levelOf c t)) ∧ Has σ M w' := by
  have RM := Lib.hid (fun (M : Mm) (w : World) (h : Has σ M w) => refMay_has h c)
  have LO : Hid (levelOf c t = if confMayB c = true ∧ 0 ≤ t ∧ t < c 1 then c (2 + t.toNat) else -1) := by
    show _ = _
    unfold levelOf
    congr 1
    simp only [eq_iff_iff]
    constructor <;> (rintro ⟨h1, h2, h3⟩; exact ⟨h1, h2, by omega⟩)
  have LE : Hid (confMayB c = true → c 1 ≤ 8) := fun h => (confMay_of h).2.1.2
  simp only [confV, ints14_lit] at RM ⊢
  generalize levelOf c t = r at *
  go_enter Try.func33, Try.ntmps33
  go_upto_region 1 with (fail)
  obtain ⟨M2, hbx, hle2, hb2, hn2⟩ := h.box (.cells #[.int .i64 (c 0), .int .i64 (c 1), .int .i64 (c 2), .int .i64 (c 3), .int .i64 (c 4), .int .i64 (c 5), .int .i64 (c 6), .int .i64 (c 7), .int .i64 (c 8), .int .i64 (c 9), .int .i64 (c 10), .int .i64 (c 11), .int .i64 (c 12), .int .i64 (c 13)] 24)
  generalize w.alloc _ = wx at hbx ⊢
  generalize w.heap.size = b2 at hb2 hn2 ⊢
  clear h
  try clear w
  have h := hbx
  clear hbx
  obtain ⟨w, rfl⟩ : ∃ x : World, x = wx := ⟨_, rfl⟩
  have hx : (#[.int .i64 (c 0), .int .i64 (c 1), .int .i64 (c 2), .int .i64 (c 3), .int .i64 (c 4), .int .i64 (c 5), .int .i64 (c 6), .int .i64 (c 7), .int .i64 (c 8), .int .i64 (c 9), .int .i64 (c 10), .int .i64 (c 11), .int .i64 (c 12), .int .i64 (c 13)] : Array Value).extract 0 (0 + 14) = #[.int .i64 (c 0), .int .i64 (c 1), .int .i64 (c 2), .int .i64 (c 3), .int .i64 (c 4), .int .i64 (c 5), .int .i64 (c 6), .int .i64 (c 7), .int .i64 (c 8), .int .i64 (c 9), .int .i64 (c 10), .int .i64 (c 11), .int .i64 (c 12), .int .i64 (c 13)] := rfl
  have c1 : (#[.int .i64 (c 0), .int .i64 (c 1), .int .i64 (c 2), .int .i64 (c 3), .int .i64 (c 4), .int .i64 (c 5), .int .i64 (c 6), .int .i64 (c 7), .int .i64 (c 8), .int .i64 (c 9), .int .i64 (c 10), .int .i64 (c 11), .int .i64 (c 12), .int .i64 (c 13)] : Array Value)[1]? = some (.int .i64 (c 1)) := rfl
  have gt : ∀ k : Nat, k < 8 → (#[.int .i64 (c 0), .int .i64 (c 1), .int .i64 (c 2), .int .i64 (c 3), .int .i64 (c 4), .int .i64 (c 5), .int .i64 (c 6), .int .i64 (c 7), .int .i64 (c 8), .int .i64 (c 9), .int .i64 (c 10), .int .i64 (c 11), .int .i64 (c 12), .int .i64 (c 13)] : Array Value)[2 + k]? = some (.int .i64 (c (2 + k))) := fun k hk => by rw [← ints14_lit, ints_get (by omega)]
  have GT := Lib.hid gt
  clear gt
  cases hm : confMayB c
  · rw [hm] at RM
    have F : Hid (r = -1) := by rw [LO.out, if_neg (by simp [hm])]; exact rfl
    clear LO LE
    go_wp2_with (first
      | ((with_reducible show wpList _ _ _ ({ dst := _, op := Op.load 24 _, type := _, pos := _, after := _, guard := _ } :: _) _ _); refine wpList_agg_has h rfl 24 _ rfl rfl hb2 hx rfl Try.underlying24 rfl (by kernel_rfl) ?_; try simp only [Act.put, List.setIfInBounds_toArray, List.set_cons_zero, List.set_cons_succ])
      | (go_at_call 7; refine (RM.out _ _ h).mono ?_; clear h; rintro e w ⟨rfl, h⟩))
    go_ret
    exact ⟨by rw [F.out]; rfl, h.le hle2⟩
  · rw [hm] at RM
    have h8 := LE.out hm
    by_cases h0 : t < 0
    · have F : Hid (r = -1) := by rw [LO.out, if_neg (by omega)]; exact rfl
      clear LO LE
      go_wp2_with (first
        | ((with_reducible show wpList _ _ _ ({ dst := _, op := Op.load 24 _, type := _, pos := _, after := _, guard := _ } :: _) _ _); refine wpList_agg_has h rfl 24 _ rfl rfl hb2 hx rfl Try.underlying24 rfl (by kernel_rfl) ?_; try simp only [Act.put, List.setIfInBounds_toArray, List.set_cons_zero, List.set_cons_succ])
        | (go_at_call 7; refine (RM.out _ _ h).mono ?_; clear h; rintro e w ⟨rfl, h⟩))
      go_ret
      exact ⟨by rw [F.out]; rfl, h.le hle2⟩
    · by_cases h1 : t < c 1
      · obtain ⟨q, rfl⟩ : ∃ q : Nat, t = q := ⟨t.toNat, by omega⟩
        have F : Hid (r = c (2 + q)) := by rw [LO.out, if_pos ⟨hm, by omega, h1⟩]; exact rfl
        have g := GT.out q (by omega)
        have h1' : ¬ c 1 ≤ (q : Int) := by omega
        have hq8 : q < 8 := by omega
        clear LO LE GT
        generalize c (2 + q) = x at g F
        go_wp2_with (first
          | ((with_reducible show wpList _ _ _ ({ dst := _, op := Op.load 24 _, type := _, pos := _, after := _, guard := _ } :: _) _ _); refine wpList_agg_has h rfl 24 _ rfl rfl hb2 hx rfl Try.underlying24 rfl (by kernel_rfl) ?_; try simp only [Act.put, List.setIfInBounds_toArray, List.set_cons_zero, List.set_cons_succ])
          | (with_reducible show wpList _ _ _ ({ dst := _, op := Op.load 3 _, type := _, pos := _, after := _, guard := _ } :: _) _ _; refine wpList_load1_has h rfl 3 _ rfl rfl hb2 c1 Try.underlying3 rfl ?_)
          | (with_reducible show wpList _ _ _ ({ dst := _, op := Op.load 3 _, type := _, pos := _, after := _, guard := _ } :: _) _ _; refine wpList_load1_has h rfl 3 _ rfl rfl hb2 g Try.underlying3 rfl ?_)
          | (go_at_call 7; refine (RM.out _ _ h).mono ?_; clear h; rintro e w ⟨rfl, h⟩))
        go_ret
        exact ⟨by rw [F.out]; rfl, h.le hle2⟩
      · have F : Hid (r = -1) := by rw [LO.out, if_neg (by omega)]; exact rfl
        obtain ⟨q, rfl⟩ : ∃ q : Nat, t = q := ⟨t.toNat, by omega⟩
        have h1' : c 1 ≤ (q : Int) := by omega
        clear h0 h1
        clear LO LE
        go_wp2_with (first
          | ((with_reducible show wpList _ _ _ ({ dst := _, op := Op.load 24 _, type := _, pos := _, after := _, guard := _ } :: _) _ _); refine wpList_agg_has h rfl 24 _ rfl rfl hb2 hx rfl Try.underlying24 rfl (by kernel_rfl) ?_; try simp only [Act.put, List.setIfInBounds_toArray, List.set_cons_zero, List.set_cons_succ])
          | (with_reducible show wpList _ _ _ ({ dst := _, op := Op.load 3 _, type := _, pos := _, after := _, guard := _ } :: _) _ _; refine wpList_load1_has h rfl 3 _ rfl rfl hb2 c1 Try.underlying3 rfl ?_)
          | (go_at_call 7; refine (RM.out _ _ h).mono ?_; clear h; rintro e w ⟨rfl, h⟩))
        go_ret
        exact ⟨by rw [F.out]; rfl, h.le hle2⟩

end
section
open Go.RowKit
set_option linter.unusedVariables false
set_option linter.unusedSimpArgs false
set_option linter.unnecessarySimpa false
theorem refActive_any (e : Nat) (he : e < 4611686018427387904) (w : World) : Calls Try.prog 11 #[.int .u64 e] w fun r w' => r = .returned (.int .u64 (2 * e + 1 : Nat)) ∧ w = w' := by
  have w1 : IntKind.u64.wrap (2 * (e : Int)) = 2 * (e : Int) := IntWalk.u64_in _ (by omega)
  have w2 : IntKind.u64.wrap (2 * (e : Int) + 1) = ((2 * e + 1 : Nat) : Int) := by rw [show 2 * (e : Int) + 1 = ((2 * e + 1 : Nat) : Int) by omega]; exact IntWalk.u64_in _ (by omega)
  clear he
  generalize 2 * e + 1 = y at *
  go_enter Try.func11, Try.ntmps11
  go_wp2
  go_ret
  exact ⟨rfl, rfl⟩
theorem refLags_any (a e : Nat) (ha : a < 18446744073709551616) (he : e < 4611686018427387904) (w : World) : Calls Try.prog 34 #[.int .u64 a, .int .u64 e] w fun r w' => r = .returned (.bool (lagsN a e)) ∧ w = w' := by
  have w1 : IntKind.u64.wrap (2 * (e : Int)) = 2 * (e : Int) := IntWalk.u64_in _ (by omega)
  have w2 : IntKind.u64.wrap (2 * (e : Int) + 1) = ((2 * e + 1 : Nat) : Int) := by rw [show 2 * (e : Int) + 1 = ((2 * e + 1 : Nat) : Int) by omega]; exact IntWalk.u64_in _ (by omega)
  have m1 : (a : Int).tmod 2 = ((a % 2 : Nat) : Int) := rfl
  obtain ⟨y, hy⟩ : ∃ y, 2 * e + 1 = y := ⟨_, rfl⟩
  rw [hy] at w2
  have N := Lib.hid (int_neq a y)
  by_cases h1 : a % 2 = 1
  · have L : Hid (lagsN a e = (a != y)) := Lib.hid (by unfold lagsN; rw [h1, hy]; rfl)
    rw [h1] at m1
    have m2 : (a : Int).tmod 2 = 1 := m1
    have m3 : (a : Int) % 2 = 1 := by omega
    clear m1 h1 hy ha he
    go_enter Try.func34, Try.ntmps34
    go_wp2
    go_ret
    exact ⟨by rw [L.out, ← N.out]; rfl, rfl⟩
  · have h0 : a % 2 = 0 := by omega
    have L : Hid (lagsN a e = false) := Lib.hid (by unfold lagsN; rw [h0]; rfl)
    rw [h0] at m1
    have m2 : (a : Int).tmod 2 = 0 := m1
    have m3 : (a : Int) % 2 = 0 := by omega
    clear m1 h1 h0 hy ha he
    go_enter Try.func34, Try.ntmps34
    go_wp2
    go_ret
    exact ⟨by rw [L.out]; rfl, rfl⟩
/-- The threads of a level among the first k, as the document finds them. -/
def atR (c : Nat → Int) (l k : Nat) : List Nat := (List.range k).filter fun t => levelOf c (t : Nat) == (l : Int)
theorem atR_succ (c : Nat → Int) (l k : Nat) : atR c l (k + 1) = if levelOf c (k : Nat) == (l : Int) then atR c l k ++ [k] else atR c l k := by
  unfold atR
  rw [List.range_succ, List.filter_append]
  cases h : (levelOf c (k : Nat) == (l : Int)) <;> simp [h]
theorem atR_le (c : Nat → Int) (l k : Nat) : (atR c l k).length ≤ k := by
  unfold atR
  exact Nat.le_trans (List.length_filter_le _ _) (by simp)
theorem atR_all {c : Nat → Int} {L B S T l : Nat} (hc : ConfMay c) (hn : Nums c L B S) (hT : c 1 = (T : Nat)) : atR c l 8 = atC c T l := by
  have h8 : T ≤ 8 := by have := hc.2.1; omega
  have key : ∀ m, T + m ≤ 8 → atR c l (T + m) = atR c l T := fun m => by
    induction m with
    | zero => intro _; rfl
    | succ m ih =>
      intro hm
      rw [← Nat.add_assoc, atR_succ, levT_out hT (by omega), if_neg (by simp <;> omega)]
      exact ih (by omega)
  have e : T + (8 - T) = 8 := by omega
  have := key (8 - T) (by omega)
  rw [e] at this
  rw [this]
  unfold atR atC
  refine List.filter_congr fun t ht => ?_
  rw [lev_cell hc hn hT (List.mem_range.1 ht), (levT_of hc hn hT (List.mem_range.1 ht)).1]
section
variable {σ w : World} {M : Mm}
set_option maxHeartbeats 2000000 in
set_option maxRecDepth 20000 in
theorem refAt_eq (h : Has σ M w) (c : Nat → Int) (l : Nat) : Calls Try.prog 10 #[confV c, .int .i64 (l : Nat), .int .i64 (l : Nat)] w fun r w' => ∃ v, r = .returned v ∧ Acc σ M w' 3 1 v (atR c l 8).length (natv (atR c l 8)) := by
  have hx : (ints .i64 14 c).extract 0 (0 + 14) = ints .i64 14 c := rfl
  have hz : (ints .i64 14 c).size = 14 := rfl
  have LV := Lib.hid (fun (M' : Mm) (w : World) (t : Int) (h : Has σ M' w) => refLevel_has h c t)
  unfold confV at LV ⊢
  generalize ints .i64 14 c = row at *
  go_enter Try.func10, Try.ntmps10
  go_upto_region 1 with (fail)
  obtain ⟨M1, hbx, hle, hbf, hnf⟩ := h.box (.cells row 24)
  generalize w.alloc _ = wx at hbx ⊢
  generalize w.heap.size = bf at hbf hnf ⊢
  clear h
  try clear w
  have h := hbx
  clear hbx
  obtain ⟨w, rfl⟩ : ∃ x : World, x = wx := ⟨_, rfl⟩
  go_upto_region 3 with (fail)
  go_loopw [7, 8] (fun o u wr => ∃ k : Nat, k ≤ 8 ∧ u = .int .i64 (k : Nat) ∧ Acc σ M1 wr 3 1 o (atR c l k).length (natv (atR c l k))) (fun _ u _ => 8 - (intOf u).toNat)
  case atStart => exact ⟨0, Nat.zero_le _, rfl, Acc.nil h _ _⟩
  case round =>
    clear h w
    obtain ⟨w, rfl⟩ : ∃ x : World, x = wr := ⟨_, rfl⟩
    obtain ⟨k, hk, rfl, M2, h, hle2, hown⟩ := hrel
    have hbf2 := hle2 _ _ hbf
    obtain ⟨Ao, co, rfl⟩ := hown.form
    by_cases hlt : k < 8
    · have hlt' : (k : Int) < 8 := by omega
      have wk : IntKind.i64.wrap ((k : Int) + 1) = ((k + 1 : Nat) : Int) := by rw [show (k : Int) + 1 = ((k + 1 : Nat) : Int) by omega]; exact IntWalk.i64_in _ (by omega)
      have LV2 := Lib.hid (fun (w : World) (h : Has σ M2 w) => LV.out M2 w (k : Nat) h)
      have SU := Lib.hid (atR_succ c l k)
      have HLT := Lib.hid hlt
      have hle8 := atR_le c l k
      clear hlt hk
      generalize hlk : levelOf c (k : Nat) = lk at *
      clear hlk
      generalize hal : atR c l k = al at *
      clear hal
      obtain ⟨nl, hnl⟩ : ∃ nl, al.length = nl := ⟨_, rfl⟩
      rw [hnl] at hown hle8
      have HNL := Lib.hid hnl
      rw [hnl]
      clear hnl
      by_cases hq : lk = (l : Int)
      · subst hq
        have g1 : (0 : Int) ≤ (l : Int) := by omega
        go_wp2_with (first
          | ((with_reducible show wpList _ _ _ ({ dst := _, op := Op.load 24 _, type := _, pos := _, after := _, guard := _ } :: _) _ _); refine wpList_agg_has h rfl 24 _ rfl rfl hbf2 hx hz Try.underlying24 rfl (by kernel_rfl) ?_; try simp only [Act.put, List.setIfInBounds_toArray, List.set_cons_zero, List.set_cons_succ])
          | (go_at_call 33; refine (LV2.out _ h).mono ?_; clear h; rintro _ w ⟨rfl, h⟩)
          | (at_builtin; refine wpList_append_lit h hle2 rfl _ _ _ rfl rfl Try.underlying40 info_int rfl (by omega) rfl hown rfl rfl rfl (by omega) (by omega) ?_; clear h hle2 hown; intro v w hacc))
        go_roundw
        case rel => exact ⟨k + 1, by have := HLT.out; omega, by go_num, by rw [SU.out, if_pos (by simp), natv_snoc', List.length_append, HNL.out]; exact hacc⟩
        case measure => have := HLT.out; simp [intOf]; omega
      · have HQ := Lib.hid hq
        by_cases g0 : 0 ≤ lk
        · by_cases g1 : (l : Int) ≤ lk
          · have g2 : ¬ lk ≤ (l : Int) := by omega
            clear hq
            go_wp2_with (first
              | ((with_reducible show wpList _ _ _ ({ dst := _, op := Op.load 24 _, type := _, pos := _, after := _, guard := _ } :: _) _ _); refine wpList_agg_has h rfl 24 _ rfl rfl hbf2 hx hz Try.underlying24 rfl (by kernel_rfl) ?_; try simp only [Act.put, List.setIfInBounds_toArray, List.set_cons_zero, List.set_cons_succ])
              | (go_at_call 33; refine (LV2.out _ h).mono ?_; clear h; rintro _ w ⟨rfl, h⟩))
            go_roundw
            case rel => exact ⟨k + 1, by have := HLT.out; omega, by go_num, by rw [SU.out, if_neg (by simpa using HQ.out), HNL.out]; exact ⟨M2, h, hle2, hown⟩⟩
            case measure => have := HLT.out; simp [intOf]; omega
          · clear hq
            go_wp2_with (first
              | ((with_reducible show wpList _ _ _ ({ dst := _, op := Op.load 24 _, type := _, pos := _, after := _, guard := _ } :: _) _ _); refine wpList_agg_has h rfl 24 _ rfl rfl hbf2 hx hz Try.underlying24 rfl (by kernel_rfl) ?_; try simp only [Act.put, List.setIfInBounds_toArray, List.set_cons_zero, List.set_cons_succ])
              | (go_at_call 33; refine (LV2.out _ h).mono ?_; clear h; rintro _ w ⟨rfl, h⟩))
            go_roundw
            case rel => exact ⟨k + 1, by have := HLT.out; omega, by go_num, by rw [SU.out, if_neg (by simpa using HQ.out), HNL.out]; exact ⟨M2, h, hle2, hown⟩⟩
            case measure => have := HLT.out; simp [intOf]; omega
        · clear hq
          go_wp2_with (first
            | ((with_reducible show wpList _ _ _ ({ dst := _, op := Op.load 24 _, type := _, pos := _, after := _, guard := _ } :: _) _ _); refine wpList_agg_has h rfl 24 _ rfl rfl hbf2 hx hz Try.underlying24 rfl (by kernel_rfl) ?_; try simp only [Act.put, List.setIfInBounds_toArray, List.set_cons_zero, List.set_cons_succ])
            | (go_at_call 33; refine (LV2.out _ h).mono ?_; clear h; rintro _ w ⟨rfl, h⟩))
          go_roundw
          case rel => exact ⟨k + 1, by have := HLT.out; omega, by go_num, by rw [SU.out, if_neg (by simpa using HQ.out), HNL.out]; exact ⟨M2, h, hle2, hown⟩⟩
          case measure => have := HLT.out; simp [intOf]; omega
    · obtain rfl : k = 8 := by omega
      go_wp2
      go_ret
      exact ⟨_, rfl, M2, h, Mm.le_trans hle hle2, hown.base fun b hb => Mm.none_of hle hb⟩
theorem any_take_succ {α : Type} (f : α → Bool) (l : List α) {k : Nat} {x : α} (h : l[k]? = some x) : (l.take (k + 1)).any f = ((l.take k).any f || f x) := by
  obtain ⟨hk, rfl⟩ := List.getElem?_eq_some_iff.1 h
  rw [List.take_succ_eq_append_getElem hk, List.any_append]
  simp
set_option maxHeartbeats 2000000 in
set_option maxRecDepth 20000 in
theorem refLate_eq (h : Has σ M w) (c : Nat → Int) {L B S T : Nat} (hc : ConfMay c) (hn : Nums c L B S) (hT : c 1 = (T : Nat)) (l : Nat) {e : EpG} (he : e.ep l < 4611686018427387904) (ha : ∀ y, y < 8 → e.act l y < 4611686018427387904) : Calls Try.prog 12 #[confV c, .agg (ints .u64 9 (eN (e.ep l) fun t => e.act l t)), .int .i64 (l : Nat)] w fun r w' => r = .returned (.bool (lateN (atC c T l) l e)) ∧ Has σ M w' := by
  have hx : (ints .i64 14 c).extract 0 (0 + 14) = ints .i64 14 c := rfl
  have hz : (ints .i64 14 c).size = 14 := rfl
  have AT := Lib.hid (fun (M' : Mm) (w : World) (h : Has σ M' w) => refAt_eq h c l)
  rw [atR_all hc hn hT] at AT
  have hal : ∀ y ∈ atC c T l, y < 8 := fun y hy => by
    have := List.mem_range.1 (List.mem_filter.1 hy).1
    have := hc.2.1
    omega
  have hlen : (atC c T l).length ≤ 8 := Nat.le_trans (atC_le c T l) (by have := hc.2.1; omega)
  have e0 : (ints .u64 9 (eN (e.ep l) fun t => e.act l t))[0]? = some (.int .u64 (e.ep l : Nat)) := rfl
  have EY : Hid (∀ y, y < 8 → (ints .u64 9 (eN (e.ep l) fun t => e.act l t))[1 + y]? = some (.int .u64 (e.act l y : Nat))) := Lib.hid fun y hy => by
    rw [ints_get (by omega)]
    unfold eN
    rw [if_neg (by omega), show 1 + y - 1 = y by omega]
  have HAL := Lib.hid hal
  have LG := Lib.hid (fun (y : Nat) (hy : y < 8) => refLags_any (e.act l y) (e.ep l) (by have := ha y hy; omega) he)
  have LT : Hid (lateN (atC c T l) l e = (atC c T l).any fun y => lagsN (e.act l y) (e.ep l)) := rfl
  generalize lateN (atC c T l) l e = late at *
  generalize atC c T l = al at *
  generalize ints .u64 9 (eN (e.ep l) fun t => e.act l t) = erow at *
  unfold confV at AT ⊢
  generalize ints .i64 14 c = row at *
  generalize e.ep l = ep at *
  generalize e.act l = act at *
  clear hc hn hT he ha hal
  obtain ⟨nl, hnl⟩ : ∃ nl, al.length = nl := ⟨_, rfl⟩
  rw [hnl] at AT hlen
  have HNL := Lib.hid hnl
  clear hnl
  go_enter Try.func12, Try.ntmps12
  go_upto_region 1 with (fail)
  obtain ⟨M1, hbx, hle, hb1, hb2, hn1, hn2⟩ := h.box2 (.cells row 24) (.cells erow 37)
  generalize (w.alloc _).alloc _ = wx at hbx ⊢
  have hne_b1_b2 : w.heap.size ≠ w.heap.size + 1 := Nat.ne_of_lt (Nat.lt_succ_self _)
  generalize w.heap.size + 1 = b2 at hb2 hn2 hne_b1_b2 ⊢
  generalize w.heap.size = b1 at hb1 hn1 hne_b1_b2 ⊢
  clear h
  try clear w
  have h := hbx
  clear hbx
  obtain ⟨w, rfl⟩ : ∃ x : World, x = wx := ⟨_, rfl⟩
  go_upto_region 3 with (first
    | ((with_reducible show wpList _ _ _ ({ dst := _, op := Op.load 24 _, type := _, pos := _, after := _, guard := _ } :: _) _ _); refine wpList_agg_has h rfl 24 _ rfl rfl hb1 hx hz Try.underlying24 rfl (by kernel_rfl) ?_; try simp only [Act.put, List.setIfInBounds_toArray, List.set_cons_zero, List.set_cons_succ])
    | ((go_at_call 10; refine (AT.out _ _ h).mono ?_; clear h; rintro _ w ⟨v, rfl, M2, h, hle2, hown⟩)))
  obtain ⟨Av, cv, rfl⟩ := hown.form
  have hrd := hown.rd
  have hb22 := hle2 _ _ hb2
  have HLE := Lib.hid (Mm.le_trans hle hle2)
  clear hown hb1 hb2 AT hle hle2
  go_loopw [8] (fun u wr => ∃ k : Nat, k ≤ nl ∧ u = .int .i64 (k : Nat) ∧ Has σ M2 wr ∧ (al.take k).any (fun y => lagsN (act y) ep) = false) (fun u _ => nl - (intOf u).toNat)
  case atStart => exact ⟨0, Nat.zero_le _, rfl, h, rfl⟩
  case round =>
    clear h w
    obtain ⟨w, rfl⟩ : ∃ x : World, x = wr := ⟨_, rfl⟩
    obtain ⟨k, hk, rfl, h, hno⟩ := hrel
    have HNO := Lib.hid hno
    clear hno
    by_cases hlt : k < nl
    · obtain ⟨y, hy⟩ : ∃ y, al[k]? = some y := ⟨_, List.getElem?_eq_getElem (by rw [HNL.out]; exact hlt)⟩
      have hy8 := HAL.out y (List.mem_of_getElem? hy)
      obtain ⟨_, A3, c3, hA, hnc, hA3⟩ := id hrd
      obtain ⟨bl, ol, csl, tl, fzl, rfl, hbl, hcl⟩ := hA3 (by omega)
      cases hA
      have gy : csl[ol + k]? = some (.int .i64 (y : Nat)) := hcl k _ (by simp [natv, hy])
      have ey := EY.out y hy8
      have hy8' : (y : Int) < 8 := by omega
      have hlt' : (k : Int) < (nl : Int) := by omega
      have wk : IntKind.i64.wrap ((k : Int) + 1) = ((k + 1 : Nat) : Int) := by rw [show (k : Int) + 1 = ((k + 1 : Nat) : Int) by omega]; exact IntWalk.i64_in _ (by omega)
      have SU := Lib.hid (any_take_succ (fun y => lagsN (act y) ep) al hy)
      obtain ⟨b, hb⟩ : ∃ b, lagsN (act y) ep = b := ⟨_, rfl⟩
      have LG2 : Hid (∀ w : World, Has σ M2 w → Calls Try.prog 34 #[.int .u64 (act y : Nat), .int .u64 (ep : Nat)] w fun r w' => r = .returned (.bool b) ∧ Has σ M2 w') := Lib.hid fun w h => (LG.out y hy8 w).mono fun r w' ⟨e1, e2⟩ => ⟨by rw [e1, hb], e2 ▸ h⟩
      have HB := Lib.hid hb
      have HLT := Lib.hid hlt
      have HY := Lib.hid hy
      clear hb hlt hk hy hy8 hcl hA3 hnc
      go_upto_region 5 with (fail)
      refine wp_region_class (Has σ M2) (by kernel_rfl) (by kernel_rfl) h.drew ?_
      clear h
      repeat (first
        | go_big_quiet_skip
        | (go_big_quiet_want; first
          | (refine quiet_load_has 3 _ rfl rfl hbl gy Try.underlying3 rfl ?_; simp only [Act.put, List.setIfInBounds_toArray, List.set_cons_zero, List.set_cons_succ]; go_big_quiet_on)
          | (refine quiet_load_has 34 _ rfl rfl hb22 ey Try.underlying34 rfl ?_; simp only [Act.put, List.setIfInBounds_toArray, List.set_cons_zero, List.set_cons_succ]; go_big_quiet_on)
          | (refine quiet_load_has 34 _ rfl rfl hb22 e0 Try.underlying34 rfl ?_; simp only [Act.put, List.setIfInBounds_toArray, List.set_cons_zero, List.set_cons_succ]; go_big_quiet_on)
          | (go_big_quiet_op; first | go_big_quiet_on | go_big_quiet_call (first | with_reducible exact fun _ => rfl | with_reducible exact LG2.out _))))
      refine wpQuiet_nil ?_
      try clear w
      intro w h
      cases b
      · go_wp2
        go_roundw
        case rel => exact ⟨k + 1, by have := HLT.out; omega, by go_num, h, by rw [SU.out, HNO.out, HB.out]; rfl⟩
        case measure => have := HLT.out; simp [intOf]; omega
      · go_wp2
        go_ret
        refine ⟨?_, h.le HLE.out⟩
        have : late = true := by
          rw [LT.out, List.any_eq_true]
          exact ⟨y, List.mem_of_getElem? HY.out, HB.out⟩
        rw [this]; rfl
    · obtain rfl : nl = k := by omega
      have hlt' : ¬ (nl : Int) < (nl : Int) := by omega
      go_wp2
      go_ret
      refine ⟨?_, h.le HLE.out⟩
      have : late = false := by
        have := HNO.out
        rw [LT.out, ← this, ← HNL.out, List.take_length]
      rw [this]; rfl
end
end
section
set_option linter.unusedSimpArgs false
theorem map_set {α : Type} (f : Nat → α) (n k : Nat) (y : α) : ((List.range n).map f).set k y = (List.range n).map (put1 f k y) := by
  apply List.ext_getElem?
  intro i
  rw [List.getElem?_set, List.getElem?_map, List.getElem?_map]
  by_cases hi : i < n
  · rw [List.getElem?_range hi]
    by_cases e : k = i
    · subst e; rw [if_pos rfl, if_pos (by simpa using hi)]; simp [put1]
    · rw [if_neg e]; simp [put1, show ¬ i = k from fun h => e h.symm]
  · rw [List.getElem?_eq_none (by simpa using hi)]
    simp [hi]
    omega
end
section
open Go.RowKit
set_option linter.unusedVariables false
set_option linter.unusedSimpArgs false
set_option linter.unnecessarySimpa false
/-- What is known of each state, with so many steps left; how many steps a thread within something needs at most, alone. -/
structure OpenJ {X : Type} (σ : World) (K : Mm) (p : Nat) (tp : List Nat) (dv : Value) (most : Nat) (J : Nat → X → MachS → Prop) (pot : Nat → X → Nat) : Prop where
  same : ∀ b x s, J b x s → s.tp = tp
  mono : ∀ b b' x s, J b x s → b' ≤ b → J b' x s
  step : ∀ t b x s (M : Mm) (lab : Nat → Nat) (w : World), t < tp.length → Has σ M w → Mach M lab p s → Base K M lab → J (b + 1) x s → (s.thr t).frames ≠ [] → Calls Try.prog 21 #[.pointer (some ⟨p, 0, none⟩), .int .i64 (t : Nat), dv] w fun r w' => ∃ M' lab' b2 x' s', r = .returned (.bool b2) ∧ Has σ M' w' ∧ Mach M' lab' p s' ∧ Base K M' lab' ∧ J b x' s' ∧ ((s'.thr t).frames = [] ∨ pot t x' + 1 ≤ pot t x) ∧ ∀ u, u < tp.length → u ≠ t → (s.thr u).frames = [] → (s'.thr u).frames = []
  pot : ∀ t b x s, J b x s → 1 ≤ pot t x ∧ pot t x ≤ most
theorem sub_mul_succ {a t m : Nat} (h : t < a) : (a - t) * m = (a - (t + 1)) * m + m := by
  rw [← Nat.succ_mul]
  congr 1
  omega
set_option maxHeartbeats 4000000 in
set_option maxRecDepth 20000 in
theorem open_rel {σ w : World} {K M : Mm} {lab : Nat → Nat} {p most : Nat} {s : MachS} {tp : List Nat} {dv : Value} {X : Type} {x : X} {J : Nat → X → MachS → Prop} {pot : Nat → X → Nat} (h : Has σ M w) (hM : Mach M lab p s) (hB : Base K M lab) (hJ : OpenJ σ K p tp dv most J pot) (h0 : J (tp.length * most) x s) (hmost : most < 1000) (hT : tp.length < 1000) :
    Calls Try.prog 22 #[.pointer (some ⟨p, 0, none⟩), dv, .int .i64 (most : Nat)] w fun r w' => r = .returned (.int .i64 0) ∧ ∃ M' lab' x' s', Has σ M' w' ∧ Mach M' lab' p s' ∧ Base K M' lab' ∧ J 0 x' s' ∧ ∀ t, t < tp.length → (s'.thr t).frames = [] := by
  have HJ := Lib.hid hJ
  have HM := Lib.hid hM
  have HB := Lib.hid hB
  have H0 := Lib.hid h0
  clear hJ hM hB h0
  go_enter Try.func22, Try.ntmps22
  go_upto_region 3 with (fail)
  go_loopw [7, 8, 9] (fun o u _ wr => ∃ t : Nat, t ≤ tp.length ∧ o = .int .i64 0 ∧ u = .int .i64 (t : Nat) ∧ ∃ M lab x s, Has σ M wr ∧ Mach M lab p s ∧ Base K M lab ∧ J ((tp.length - t) * most) x s ∧ ∀ v, v < t → (s.thr v).frames = []) (fun _ u _ _ => tp.length + 1 - (intOf u).toNat)
  case atStart => exact ⟨0, Nat.zero_le _, rfl, rfl, M, lab, x, s, h, HM.out, HB.out, H0.out, fun v hv => absurd hv (Nat.not_lt_zero _)⟩
  case round =>
    clear h w HM HB H0 M lab x s
    obtain ⟨w, rfl⟩ : ∃ x : World, x = wr := ⟨_, rfl⟩
    obtain ⟨t, ht, rfl, rfl, M2, lab2, x2, s2, h, hM2, hB2, hP2, hR2⟩ := hrel
    by_cases hlt : t < tp.length
    · obtain ⟨q, hq⟩ : ∃ q, tp[t]? = some q := ⟨_, List.getElem?_eq_getElem hlt⟩
      have TH := Lib.hid (fun (w : World) (h : Has σ M2 w) => mThread_yes h hM2 (t := t) (q := q) (by rw [HJ.out.same _ _ _ hP2]; exact hq))
      have wt : IntKind.i64.wrap ((t : Int) + 1) = ((t + 1 : Nat) : Int) := by rw [show (t : Int) + 1 = ((t + 1 : Nat) : Int) by omega]; exact IntWalk.i64_in _ (by omega)
      have HQ := Lib.hid hq
      have HLT := Lib.hid hlt
      have HM2 := Lib.hid hM2
      have HB2 := Lib.hid hB2
      have HP2 := Lib.hid hP2
      have HR2 := Lib.hid hR2
      clear hq hlt hM2 hB2 hP2 hR2 ht
      go_upto_region 6 with (first
        | (go_at_call 15; refine (TH.out _ h).mono ?_; clear h; rintro _ w ⟨rfl, h⟩))
      clear TH
      go_loopw [9] (fun i wr => ∃ (k : Nat) (M : Mm) (lab : Nat → Nat) (x : X) (s : MachS), k ≤ most ∧ i = .int .i64 (k : Nat) ∧ Has σ M wr ∧ Mach M lab p s ∧ Base K M lab ∧ J ((tp.length - t) * most - k) x s ∧ ((s.thr t).frames = [] ∨ pot t x + k ≤ most) ∧ ∀ v, v < t → (s.thr v).frames = []) (fun i _ => most + 1 - (intOf i).toNat)
      case atStart => exact ⟨0, M2, lab2, x2, s2, Nat.zero_le _, rfl, h, HM2.out, HB2.out, HP2.out, .inr (HJ.out.pot t _ _ _ HP2.out).2, HR2.out⟩
      case round =>
        clear h w HM2 HB2 HP2 HR2 M2 lab2 x2 s2
        obtain ⟨w, rfl⟩ : ∃ x : World, x = wr := ⟨_, rfl⟩
        obtain ⟨k, M5, lab5, x5, s5, hk, rfl, h, hM5, hB5, hP5, hpk, hR5⟩ := hrel
        have HM5 := Lib.hid hM5
        have HB5 := Lib.hid hB5
        have HP5 := Lib.hid hP5
        have HR5 := Lib.hid hR5
        have HPK := Lib.hid hpk
        have HKL := Lib.hid hk
        clear hM5 hB5 hP5 hR5 hpk
        by_cases hkm : k < most
        · have hkm' : (k : Int) < (most : Int) := by omega
          have HKM := Lib.hid hkm
          by_cases hfr : (s5.thr t).frames = []
          · have HF5 := Lib.hid hfr
            clear hfr hk
            obtain ⟨fvD, hvD, fbD, hTD⟩ := HM5.out.each t q (by rw [HJ.out.same _ _ _ HP5.out]; exact HQ.out)
            have hlD := hTD.flen
            have DPD := Lib.hid (fun (w : World) (h : Has σ M5 w) => thrDeep_eq h hTD)
            rw [hlD, HF5.out] at DPD
            have THD := Lib.hid (fun (w : World) (h : Has σ M5 w) => mThread_yes h HM5.out (t := t) (q := q) (by rw [HJ.out.same _ _ _ HP5.out]; exact HQ.out))
            have zz : (([] : List FrameS).length : Int) = 0 := rfl
            clear hTD hlD
            go_wp2_with (first
              | (go_at_call 15; refine (THD.out _ h).mono ?_; clear h; rintro _ w ⟨rfl, h⟩)
              | (go_at_call 18; refine (DPD.out _ h).mono ?_; clear h; rintro _ w ⟨rfl, h⟩))
            go_roundw
            case rel => exact ⟨t + 1, by have := HLT.out; omega, rfl, by first | rfl | (have := HLT.out; go_num), M5, lab5, x5, s5, h, HM5.out, HB5.out, HJ.out.mono _ _ _ _ HP5.out (by have e := sub_mul_succ (m := most) HLT.out; have := HKL.out; omega), fun v hv => by
              by_cases e : v = t
              · rw [e]; exact HF5.out
              · exact HR5.out v (by omega)⟩
            case measure => have := HLT.out; simp [intOf]; omega
          · have HF5 := Lib.hid hfr
            obtain ⟨fvD, hvD, fbD, hTD⟩ := HM5.out.each t q (by rw [HJ.out.same _ _ _ HP5.out]; exact HQ.out)
            have hlD := hTD.flen
            have DPD := Lib.hid (fun (w : World) (h : Has σ M5 w) => thrDeep_eq h hTD)
            rw [hlD] at DPD
            have THD := Lib.hid (fun (w : World) (h : Has σ M5 w) => mThread_yes h HM5.out (t := t) (q := q) (by rw [HJ.out.same _ _ _ HP5.out]; exact HQ.out))
            have hpos : 0 < (s5.thr t).frames.length := by
              cases hf : (s5.thr t).frames with
              | nil => exact absurd hf hfr
              | cons a b => simp
            have hpos' : (0 : Int) < ((s5.thr t).frames.length : Int) := by omega
            have SP := Lib.hid (fun (w : World) (h : Has σ M5 w) => HJ.out.step t ((tp.length - t) * most - (k + 1)) x5 s5 M5 lab5 w HLT.out h HM5.out HB5.out (HJ.out.mono _ _ _ _ HP5.out (by
              have e := sub_mul_succ (m := most) HLT.out
              have h2 := HKM.out
              omega)) HF5.out)
            clear hTD hlD hfr hk
            generalize (s5.thr t).frames.length = n5 at *
            go_wp2_with (first
              | (go_at_call 15; refine (THD.out _ h).mono ?_; clear h; rintro _ w ⟨rfl, h⟩)
              | (go_at_call 18; refine (DPD.out _ h).mono ?_; clear h; rintro _ w ⟨rfl, h⟩)
              | (go_at_call 21; refine (SP.out _ h).mono ?_; clear h; rintro _ w ⟨M6, lab6, b6, x6, s6, rfl, h, hM6, hB6, hP6, hd6, hu6⟩))
            go_roundw
            case rel => exact ⟨k + 1, M6, lab6, x6, s6, by have := HKM.out; omega, by go_num, h, hM6, hB6, hP6, by
              rcases hd6 with e | e
              · exact .inl e
              · rcases HPK.out with e2 | e2
                · exact absurd e2 HF5.out
                · exact .inr (by omega), fun v hv => hu6 v (by have := HLT.out; omega) (by omega) (HR5.out v hv)⟩
            case measure => have := HKM.out; simp [intOf]; omega
        · have HF5 : Hid ((s5.thr t).frames = []) := Lib.hid (by
            rcases HPK.out with e | e
            · exact e
            · have := (HJ.out.pot t _ _ _ HP5.out).1; omega)
          obtain rfl : most = k := by omega
          have hkk : ¬ (most : Int) < (most : Int) := by omega
          clear hkm hk
          obtain ⟨fvD, hvD, fbD, hTD⟩ := HM5.out.each t q (by rw [HJ.out.same _ _ _ HP5.out]; exact HQ.out)
          have hlD := hTD.flen
          have DPD := Lib.hid (fun (w : World) (h : Has σ M5 w) => thrDeep_eq h hTD)
          rw [hlD, HF5.out] at DPD
          have THD := Lib.hid (fun (w : World) (h : Has σ M5 w) => mThread_yes h HM5.out (t := t) (q := q) (by rw [HJ.out.same _ _ _ HP5.out]; exact HQ.out))
          have zz : (([] : List FrameS).length : Int) = 0 := rfl
          clear hTD hlD
          go_wp2_with (first
            | (go_at_call 15; refine (THD.out _ h).mono ?_; clear h; rintro _ w ⟨rfl, h⟩)
            | (go_at_call 18; refine (DPD.out _ h).mono ?_; clear h; rintro _ w ⟨rfl, h⟩))
          go_roundw
          case rel => exact ⟨t + 1, by have := HLT.out; omega, rfl, by first | rfl | (have := HLT.out; go_num), M5, lab5, x5, s5, h, HM5.out, HB5.out, HJ.out.mono _ _ _ _ HP5.out (by have e := sub_mul_succ (m := most) HLT.out; have := HKL.out; omega), fun v hv => by
            by_cases e : v = t
            · rw [e]; exact HF5.out
            · exact HR5.out v (by omega)⟩
          case measure => have := HLT.out; simp [intOf]; omega
    · have TH := Lib.hid (fun (w : World) (h : Has σ M2 w) => mThread_no h hM2 (t : Nat) (.inr (by rw [HJ.out.same _ _ _ hP2]; omega)))
      obtain rfl : t = tp.length := by omega
      have HM2 := Lib.hid hM2
      have HB2 := Lib.hid hB2
      have HP2 := Lib.hid hP2
      have HR2 := Lib.hid hR2
      clear hM2 hB2 hP2 hR2
      go_wp2_with (first
        | (go_at_call 15; refine (TH.out _ h).mono ?_; clear h; rintro _ w ⟨rfl, h⟩))
      go_ret
      exact ⟨rfl, M2, lab2, x2, s2, h, HM2.out, HB2.out, HJ.out.mono _ _ _ _ HP2.out (Nat.zero_le _), HR2.out⟩
end
section
open Go.RowKit
set_option linter.unusedVariables false
set_option linter.unusedSimpArgs false
set_option linter.unnecessarySimpa false
/-- What registers hold. -/
def R0I (T : Nat) (lev : Nat → Nat) (g : EpG) : Prop := ∀ t, t < T → ∀ F, g.thr t = some F → F.r0 ≤ g.ep (lev t) ∧ (F.fn ≠ 12 → F.r1 = 0)
section
variable {T n t l : Nat} {lev : Nat → Nat} {g : EpG} {ab : Nat → Bool × Nat} {ins : Nat → Bool} {F : EpF}
theorem R0I.to (h : R0I T lev g) {g2 : EpG} {x : Option EpF} (e1 : g2.thr = put1 g.thr t x) (e2 : ∀ l, g.ep l ≤ g2.ep l) (hx : ∀ F2, x = some F2 → F2.r0 ≤ g2.ep (lev t) ∧ (F2.fn ≠ 12 → F2.r1 = 0)) : R0I T lev g2 := fun u hu F' hF' => by
  rw [e1] at hF'
  by_cases e : u = t
  · subst e; rw [put1_same] at hF'; exact hx F' hF'
  · rw [put1_ne e] at hF'
    obtain ⟨a, b⟩ := h u hu F' hF'
    exact ⟨Nat.le_trans a (e2 _), b⟩
theorem R0I.call (h : R0I T lev g) (fn : Nat) : R0I T lev (g.go t ⟨fn, 0, 0, 0⟩) :=
  h.to (x := some ⟨fn, 0, 0, 0⟩) rfl (fun _ => Nat.le_refl _) fun F2 e => by cases e; exact ⟨Nat.zero_le _, fun _ => rfl⟩
theorem R0I.next (h : R0I T lev g) (ht : t < T) (hF : g.thr t = some F) (hfn : F.fn = 10 ∨ F.fn = 11 ∨ F.fn = 12) (al : List Nat) : R0I T lev (g.next al t (lev t) F) := by
  obtain ⟨a, b⟩ := h t ht F hF
  unfold EpG.next EpG.pin EpG.adv
  repeat' split
  · exact h.to (x := some _) rfl (fun _ => Nat.le_refl _) fun F2 e => by cases e; exact ⟨Nat.le_refl _, b⟩
  · exact h.to (x := some _) rfl (fun _ => Nat.le_refl _) fun F2 e => by cases e; exact ⟨a, b⟩
  · exact h.to (x := none) rfl (fun _ => Nat.le_refl _) fun F2 e => by cases e
  · exact h.to (x := none) rfl (fun _ => Nat.le_refl _) fun F2 e => by cases e
  · exact h.to (x := some _) rfl (fun _ => Nat.le_refl _) fun F2 e => by cases e; exact ⟨Nat.le_refl _, b⟩
  · exact h.to (x := none) rfl (fun _ => Nat.le_refl _) fun F2 e => by cases e
  · exact h.to (x := some _) rfl (fun _ => Nat.le_refl _) fun F2 e => by cases e; exact ⟨a, fun e2 => absurd (show F.fn = 12 by omega) (show F.fn ≠ 12 from e2)⟩
  · exact h.to (x := some _) rfl (fun _ => Nat.le_refl _) fun F2 e => by cases e; exact ⟨a, fun e2 => absurd (show F.fn = 12 by omega) (show F.fn ≠ 12 from e2)⟩
  · next he => exact h.to (x := none) rfl (fun l => by
      show _ ≤ put1 g.ep (lev t) (F.r0 + 1) l
      by_cases e : l = lev t
      · subst e; rw [put1_same]; omega
      · rw [put1_ne e]; exact Nat.le_refl _) fun F2 e => by cases e
  · exact h.to (x := none) rfl (fun _ => Nat.le_refl _) fun F2 e => by cases e
theorem EpI.ok (h : EpI T lev n g ab ins) (h0 : R0I T lev g) (hn : n < 100000) (hT : T ≤ 8) (ht : t < T) (hF : g.thr t = some F) : OkE (atL T lev (lev t)) F := by
  have hT2 := h.thr t ht F hF
  obtain ⟨a, b⟩ := h0 t ht F hF
  have hb := h.epb (lev t)
  have hl : (atL T lev (lev t)).length ≤ 8 := Nat.le_trans atL_len hT
  refine ⟨hT2.fn, fun e => (hT2.pin e).1, fun e => (hT2.unpin e).1, fun e => ⟨(hT2.adv e).1, (hT2.adv e).2.2.2.1⟩, by omega, ?_⟩
  by_cases e : F.fn = 12
  · obtain ⟨h1, _, _, h4, _, h6⟩ := hT2.adv e
    by_cases h2 : F.pc = 2
    · have := h6 h2; omega
    · have := h4 (by omega); omega
  · rw [b e]; exact Nat.zero_le _
/-- How many steps a thread needs at most, alone. -/
def potT (T : Nat) (lev : Nat → Nat) (t : Nat) (g : EpG) : Nat := if t < T then (match g.thr t with | none => 1 | some F => potE (atL T lev (lev t)) F) else 1
end
/-- What is known of a crowd, with so many steps left. -/
def EcJ (c : Nat → Int) (tp : List Nat) (T : Nat) (b : Nat) (g : EpG) (s : MachS) : Prop := ∃ n m ab ins, AbsE c tp n s g ∧ EpI T (levT c) m g ab ins ∧ R0I T (levT c) g ∧ n + b < 90000 ∧ m + b < 90000
theorem ec_idle {c : Nat → Int} {tp : List Nat} {n t : Nat} {s : MachS} {g : EpG} (hA : AbsE c tp n s g) (ht : (t : Int) < c 1) : (s.thr t).frames = [] ↔ g.thr t = none := by
  have := hA.frames ht
  cases h : g.thr t with
  | none => rw [h] at this; simpa using this
  | some F =>
    rw [h] at this
    refine ⟨fun e => ?_, fun e => (nomatch e)⟩
    rw [e] at this
    simp at this
theorem ec_step {σ w : World} {K M : Mm} {lab : Nat → Nat} {p t q n m L B S T : Nat} {c : Nat → Int} {tp : List Nat} {s : MachS} {g : EpG} {ab : Nat → Bool × Nat} {ins : Nat → Bool} {F : EpF} (h : Has σ M w) (hM : Mach M lab p s) (hB : Base K M lab) (hc : ConfMay c) (hn : Nums c L B S) (hT : c 1 = (T : Nat)) (ha : n < 90000) (hm : m < 90000) (ht : t < T) (hq : tp[t]? = some q)
    (hA : AbsE c tp n s g) (hI : EpI T (levT c) m g ab ins) (h0 : R0I T (levT c) g) (hF : g.thr t = some F) :
    Calls Try.prog 21 #[.pointer (some ⟨p, 0, none⟩), .int .i64 (t : Nat), (.func (.func 14) #[] #[])] w fun r w' => ∃ M' lab' s' g', r = .returned (.bool (g'.thr t).isSome) ∧ Has σ M' w' ∧ Mach M' lab' p s' ∧ Base K M' lab' ∧ AbsE c tp (n + 1) s' g' ∧ EpN T (levT c) m t F g g' ab ins ∧ R0I T (levT c) g' ∧ g' = g.next (atL T (levT c) (levT c t)) t (levT c t) F := by
  obtain ⟨elv, ll⟩ := levT_of hc hn hT ht
  have hT8 : T ≤ 8 := by have := hc.2.1; omega
  have ok := hI.ok h0 (by omega) hT8 ht hF
  have hN := ep_next hI ht hF
  rw [← atC_atL hc hn hT] at ok
  refine (ep_step h hM hB hA (by omega) (by rw [hT]; omega) hq elv (by rw [hn.lev]; omega) hT hF ok).mono fun r w' hr => ?_
  obtain ⟨M', lab', s', hr, hw', hM', hB', hA'⟩ := hr
  rw [atC_atL hc hn hT] at hr hA'
  exact ⟨M', lab', s', _, hr, hw', hM', hB', hA', hN, h0.next ht hF (hI.thr t ht F hF).fn _, rfl⟩
theorem ec_step2 {σ w : World} {K M : Mm} {lab : Nat → Nat} {p t q n m L B S T : Nat} {c : Nat → Int} {tp : List Nat} {s : MachS} {g : EpG} {ab : Nat → Bool × Nat} {ins : Nat → Bool} {F : EpF} (h : Has σ M w) (hM : Mach M lab p s) (hB : Base K M lab) (hc : ConfMay c) (hn : Nums c L B S) (hT : c 1 = (T : Nat)) (ha : n < 90000) (hm : m < 90000) (ht : t < T) (hq : tp[t]? = some q)
    (hA : AbsE c tp n s g) (hI : EpI T (levT c) m g ab ins) (h0 : R0I T (levT c) g) (hF : g.thr t = some F) :
    Calls Try.prog 21 #[.pointer (some ⟨p, 0, none⟩), .int .i64 (t : Nat), (.func (.func 14) #[] #[])] w fun r w' => ∃ M' lab' s' g', r = .returned (.bool (g'.thr t).isSome) ∧ Has σ M' w' ∧ Mach M' lab' p s' ∧ Base K M' lab' ∧ AbsE c tp (n + 1) s' g' ∧ EpN T (levT c) m t F g g' ab ins ∧ R0I T (levT c) g' :=
  (ec_step h hM hB hc hn hT ha hm ht hq hA hI h0 hF).mono fun r w' ⟨M', lab', s', g', a1, a2, a3, a4, a5, a6, a7, _⟩ => ⟨M', lab', s', g', a1, a2, a3, a4, a5, a6, a7⟩
theorem ec_open {σ : World} {K : Mm} {p L B S T : Nat} {c : Nat → Int} {tp : List Nat} (hc : ConfMay c) (hn : Nums c L B S) (hT : c 1 = (T : Nat)) (htp : tp.length = T) : OpenJ σ K p tp (.func (.func 14) #[] #[]) 20 (EcJ c tp T) (potT T (levT c)) := by
  have hT8 : T ≤ 8 := by have := hc.2.1; omega
  refine ⟨fun b g s ⟨n, m, ab, ins, hA, _⟩ => hA.ttp, fun b b' g s ⟨n, m, ab, ins, hA, hI, h0, h1, h2⟩ hb => ⟨n, m, ab, ins, hA, hI, h0, by omega, by omega⟩, fun t b g s M lab w ht h hM hB hP hfr => ?_, fun t b g s hP => ?_⟩
  · obtain ⟨n, m, ab, ins, hA, hI, h0, h1, h2⟩ := hP
    have htT : t < T := by omega
    have ht1 : (t : Int) < c 1 := by omega
    obtain ⟨q, hq⟩ : ∃ q, tp[t]? = some q := ⟨_, List.getElem?_eq_getElem ht⟩
    cases hF : g.thr t with
    | none => exact absurd ((ec_idle hA ht1).2 hF) hfr
    | some F =>
      refine (ec_step h hM hB hc hn hT (by omega) (by omega) htT hq hA hI h0 hF).mono fun r w' hr => ?_
      obtain ⟨M', lab', s', g', hr, hw', hM', hB', hA', hN, h0', e⟩ := hr
      refine ⟨M', lab', _, g', s', hr, hw', hM', hB', ⟨n + 1, m + 1, _, _, hA', hN.inv, h0', by omega, by omega⟩, ?_, fun u huT hu hfu => ?_⟩
      · cases hF2 : g'.thr t with
        | none => exact .inl ((ec_idle hA' ht1).2 hF2)
        | some F2 =>
          refine .inr ?_
          unfold potT
          rw [if_pos htT, if_pos htT, hF, hF2]
          rw [e] at hF2
          exact potE_next hI htT hF hF2
      · have hu1 : (u : Int) < c 1 := by omega
        exact (ec_idle hA' hu1).2 (by rw [hN.oth u hu]; exact (ec_idle hA hu1).1 hfu)
  · obtain ⟨n, m, ab, ins, hA, hI, h0, h1, h2⟩ := hP
    unfold potT
    split
    · next htT =>
      split
      · omega
      · next F hF =>
        have := potE_pos hI htT hF
        omega
    · omega
/-- A thread within a routine: its top frame. -/
theorem ec_top {σ : World} {M : Mm} {lab : Nat → Nat} {p t q n : Nat} {c : Nat → Int} {tp : List Nat} {s : MachS} {e : EpG} {F : EpF} (hM : Mach M lab p s) (hA : AbsE c tp n s e) (ht : (t : Int) < c 1) (hq : tp[t]? = some q) (hF : e.thr t = some F) :
    ∃ b, (∀ w, Has σ M w → Calls Try.prog 20 #[.pointer (some ⟨q, 0, none⟩)] w fun r w' => r = .returned (.pointer (some ⟨b, 0, none⟩)) ∧ Has σ M w') ∧ ∃ cs ty, M b = some (.cells cs ty (0, 0)) ∧ cs[0]? = some (.int .i64 (F.fn : Nat)) := by
  obtain ⟨g, hA, rfl, hlen, hb⟩ := hA
  have h1 := hlen t
  obtain ⟨F0, hthr, hF0⟩ : ∃ F0, g.thr t = [F0] ∧ frE F0 = F := by
    have hF : (match g.thr t with | [F] => some (frE F) | _ => none) = some F := hF
    match hg : g.thr t with
    | [] => rw [hg] at hF; cases hF
    | [F0] => rw [hg] at hF; cases hF; exact ⟨F0, rfl, rfl⟩
    | a :: b :: r => rw [hg] at h1; simp at h1
  obtain ⟨fv, hv, fbs, hTh⟩ := hM.each t q (by rw [hA.ttp]; exact hq)
  have hfr : (s.thr t).frames = [F0.enc] := by rw [hA.thr.fr t ht, hthr]; rfl
  have hl := hTh.flen
  rw [hfr] at hl
  match fbs, hl with
  | [b], _ =>
    refine ⟨b, fun w h => thrTop_eq (fbs := []) h hTh (by simp), _, _, (hTh.frame 0 b F0.enc rfl (by rw [hfr]; rfl)).1, ?_⟩
    subst hF0
    rfl
/-- A thread's depth. -/
theorem ec_deep {σ : World} {M : Mm} {lab : Nat → Nat} {p t q n : Nat} {c : Nat → Int} {tp : List Nat} {s : MachS} {e : EpG} (hM : Mach M lab p s) (hA : AbsE c tp n s e) (ht : (t : Int) < c 1) (hq : tp[t]? = some q) :
    ∀ w, Has σ M w → Calls Try.prog 18 #[.pointer (some ⟨q, 0, none⟩)] w fun r w' => r = .returned (.int .i64 (if (e.thr t).isSome then 1 else 0 : Nat)) ∧ Has σ M w' := fun w h => by
  obtain ⟨fv, hv, fbs, hTh⟩ := hM.each t q (by rw [hA.ttp]; exact hq)
  have hl := hTh.flen
  have := thrDeep_eq h hTh
  rw [hl, hA.frames ht] at this
  exact this
/-- A thread begins a routine. -/
theorem ec_call {σ w : World} {K M : Mm} {lab : Nat → Nat} {p t q n fn : Nat} {c : Nat → Int} {tp : List Nat} {s : MachS} {e : EpG} (h : Has σ M w) (hM : Mach M lab p s) (hB : Base K M lab) (hA : AbsE c tp n s e) (ht : (t : Int) < c 1) (hq : tp[t]? = some q) (hF : e.thr t = none) :
    Calls Try.prog 19 #[.pointer (some ⟨q, 0, none⟩), .int .i64 (fn : Nat), .slice none 0 0] w fun r w' => r = .returned (.tuple #[]) ∧ ∃ M' lab' s', Has σ M' w' ∧ Mach M' lab' p s' ∧ Base K M' lab' ∧ AbsE c tp n s' (e.go t ⟨fn, 0, 0, 0⟩) := by
  have hq2 : s.tp[t]? = some q := by rw [hA.ttp]; exact hq
  obtain ⟨fv, hv, fbs, hTh⟩ := hM.each t q hq2
  have hl := hTh.flen
  rw [hA.frames ht, hF] at hl
  refine (thrCall_eq h hTh fn (rv := .slice none 0 0) (us := []) (Rd.nil _ _ _) (by simp) (by rw [hl]; decide)).mono fun r w' hq => ?_
  obtain ⟨e1, M', lab', hh, hK, hI⟩ := hq
  obtain ⟨hM', hB'⟩ := hM.thrTo hB hq2 hK hI
  exact ⟨e1, M', lab', _, hh, hM', hB', hA.begun ht hF fn⟩
/-- The law's own rows: when each thread became pinned; who is. -/
def encA (x : Bool × Nat) : List Value := [.bool x.1, .int .u64 (x.2 : Nat)]
theorem encA_len (x : Bool × Nat) : (encA x).length = 2 := rfl
structure LawE (K : Mm) (labK : Nat → Nat) (T ba bb : Nat) (ab : Nat → Bool × Nat) (ins : Nat → Bool) : Prop where
  arow : Row K labK 2 65 2 (.slice (some ⟨ba, 0, none⟩) T T) T (((List.range T).map ab).flatMap encA)
  brow : Row K labK 3 4 1 (.slice (some ⟨bb, 0, none⟩) T T) T ((List.range T).map fun k => Value.bool (ins k))
section
variable {K K' : Mm} {labK labK' : Nat → Nat} {T ba bb t : Nat} {ab : Nat → Bool × Nat} {ins : Nat → Bool}
theorem LawE.keep (h : LawE K labK T ba bb ab ins) (hK : Kp Non K labK K' labK') : LawE K' labK' T ba bb ab ins := ⟨h.arow.keep hK fun h => h, h.brow.keep hK fun h => h⟩
theorem LawE.setA (h : LawE K labK T ba bb ab ins) {x : Bool × Nat} (hK : Kp (fun j => j = 2) K labK K' labK') (hr : Row K' labK' 2 65 2 (.slice (some ⟨ba, 0, none⟩) T T) T ((((List.range T).map ab).set t x).flatMap encA)) : LawE K' labK' T ba bb (put1 ab t x) ins :=
  ⟨by rw [← map_set]; exact hr, h.brow.keep hK (by omega)⟩
theorem LawE.setB (h : LawE K labK T ba bb ab ins) {b : Bool} (hK : Kp (fun j => j = 3) K labK K' labK') (hr : Row K' labK' 3 4 1 (.slice (some ⟨bb, 0, none⟩) T T) T (((List.range T).map fun k => Value.bool (ins k)).set t (.bool b))) : LawE K' labK' T ba bb ab (put1 ins t b) := by
  refine ⟨h.arow.keep hK (by omega), ?_⟩
  have e : (fun j => Value.bool (put1 ins t b j)) = put1 (fun j => Value.bool (ins j)) t (.bool b) := by
    funext j
    unfold put1
    split <;> rfl
  rw [e, ← map_set]
  exact hr
/-- A cell of these rows. -/
theorem ab_get {k : Nat} (hk : k < T) (j : Nat) (hj : j < 2) : (((List.range T).map ab).flatMap encA)[k * 2 + j]? = (encA (ab k))[j]? :=
  flat_get encA_len _ k _ (by rw [List.getElem?_map, List.getElem?_range hk]; rfl) j hj
theorem ins_get {k : Nat} (hk : k < T) : ((List.range T).map fun k => Value.bool (ins k))[k]? = some (.bool (ins k)) := by
  rw [List.getElem?_map, List.getElem?_range hk]; rfl
end
theorem info_bool : (Try.prog.info? 4).map (fun i => (i.zero, i.size, i.bytes)) = some (some (.bool false), 1, 1) := by kernel_rfl
theorem info_about : (Try.prog.info? 65).map (fun i => (i.zero, i.size, i.bytes)) = some (some (.agg #[.bool false, .int .u64 0]), 2, 16) := by kernel_rfl
theorem made_bools (n : Nat) : madeCells (Value.bool false).cells (n * 1) = ((List.range n).map fun _ => Value.bool false).toArray := by
  apply Array.ext_getElem?
  intro i
  unfold madeCells
  by_cases hi : i < n
  · simp [Value.cells, hi, Nat.mod_one]
  · simp [Value.cells, hi]
theorem made_about (n : Nat) : madeCells #[Value.bool false, .int .u64 0] (n * 2) = (((List.range n).map fun _ => (false, (0 : Nat))).flatMap encA).toArray := by
  apply Array.ext_getElem?
  intro i
  unfold madeCells
  by_cases hi : i < n * 2
  · have hk : i / 2 < n := by omega
    have e : i = i / 2 * 2 + i % 2 := by omega
    have hL : (((List.range n).map fun _ => (false, (0 : Nat))).flatMap encA)[i / 2 * 2 + i % 2]? = (encA (false, 0))[i % 2]? := ab_get (ab := fun _ => (false, 0)) hk (i % 2) (by omega)
    rw [← e] at hL
    have hL2 : (((List.range n).map fun _ => (false, (0 : Nat))).flatMap encA).toArray[i]? = (encA (false, 0))[i % 2]? := by rw [← Array.getElem?_toList]; exact hL
    rw [hL2, Array.getElem?_map, Array.getElem?_range, if_pos hi, Option.map_some]
    rcases (show i % 2 = 0 ∨ i % 2 = 1 by omega) with h | h
    · show some (#[Value.bool false, .int .u64 0][i % 2]!) = _
      rw [h]; rfl
    · show some (#[Value.bool false, .int .u64 0][i % 2]!) = _
      rw [h]; rfl
  · rw [Array.getElem?_eq_none (by simp; omega), Array.getElem?_eq_none (by rw [List.size_toArray, flat_length encA_len]; simp; omega)]
theorem mk_bools (N : Nat) (h : N ≤ 1000) (W : World) : (Instr.makeSlice 55 (.int .i64 N) (.int .i64 N)).run Try.prog W = .ok (.slice (some ⟨W.heap.size, 0, none⟩) N N) (W.alloc (.cells ((List.range N).map fun _ => Value.bool false).toArray 4)) := by
  obtain ⟨i, hi, he⟩ := Option.map_eq_some_iff.1 info_bool
  simp only [Prod.mk.injEq] at he
  obtain ⟨h1, h2, h3⟩ := he
  rw [run_makeSlice W 55 4 i (.bool false) Try.underlying55 hi h1 .i64 .i64 N N (by omega) (by omega) (by rw [h2, Int.toNat_natCast]; omega) (by rw [h3]; omega) (by omega), Int.toNat_natCast, h2, made_bools]
theorem mk_about (N : Nat) (h : N ≤ 1000) (W : World) : (Instr.makeSlice 54 (.int .i64 N) (.int .i64 N)).run Try.prog W = .ok (.slice (some ⟨W.heap.size, 0, none⟩) N N) (W.alloc (.cells (((List.range N).map fun _ => (false, (0 : Nat))).flatMap encA).toArray 65)) := by
  obtain ⟨i, hi, he⟩ := Option.map_eq_some_iff.1 info_about
  simp only [Prod.mk.injEq] at he
  obtain ⟨h1, h2, h3⟩ := he
  rw [run_makeSlice W 54 65 i (.agg #[.bool false, .int .u64 0]) Try.underlying54 hi h1 .i64 .i64 N N (by omega) (by omega) (by rw [h2, Int.toNat_natCast]; omega) (by rw [h3]; omega) (by omega), Int.toNat_natCast, h2]
  show Result.ok _ (W.alloc (.cells (madeCells #[Value.bool false, .int .u64 0] (N * 2)) 65)) = _
  rw [made_about N]
end
end Go.Proofs.Ytjeeldacnllipaa
