/- Go's == on structs and arrays whose cells are all bools, integers and strings: cell by cell. -/
import Derived.Test.YtlpkimpdeeiaaaaGreatBase
import Derived.ChangeKeysEq
import Derived.Laws.StructEq
namespace Go.Proofs.YtlpkimpdeeiaaaaGreat
open Go.RowKit

/-- What a cell holds: 'none': a bool; 'some none': a string; 'some (some k)': an integer of kind k. -/
abbrev Kd := Option (Option IntKind)
def kfit : Kd → Value → Prop
  | none, .bool _ => True
  | some (some k), .int k' _ => k' = k
  | some none, .string _ => True
  | _, _ => False
def fits : List Kd → List Value → Prop
  | [], [] => True
  | k :: ks, v :: vs => kfit k v ∧ fits ks vs
  | _, _ => False
def same : Value → Value → Bool
  | .bool a, .bool b => a == b
  | .int _ a, .int _ b => a == b
  | .string a, .string b => a.toList == b.toList
  | _, _ => false
def sames : List Value → List Value → Bool
  | a :: xs, b :: ys => same a b && sames xs ys
  | _, _ => true

section
variable (P : Program)
/-- What the cells of a flat type hold. -/
def kindsF (kinds : TypeId → Option (List Kd)) : List Field → List Kd → Option (List Kd)
  | [], acc => some acc
  | f :: fs, acc => match kinds f.type with
    | some ks => if ks.length = P.cellsOf f.type ∧ f.offset = acc.length ∧ f.name ≠ "_" then kindsF kinds fs (acc ++ ks) else none
    | none => none
def kindsOf : Nat → TypeId → Option (List Kd)
  | 0, _ => none
  | d + 1, t => match P.underlying t with
    | some .bool => some [none]
    | some (.int k) => some [some (some k)]
    | some .string => some [some none]
    | some (.array n e) => match kindsOf d e with
      | some ks => if ks.length = P.cellsOf e then some (List.replicate n ks).flatten else none
      | none => none
    | some (.struct fs) => if P.stoodInHeld t = false then kindsF P (kindsOf d) fs.toList [] else none
    | _ => none
end

theorem fits_length : ∀ {ks : List Kd} {vs : List Value}, fits ks vs → vs.length = ks.length
  | [], [], _ => rfl
  | _ :: _, _ :: _, ⟨_, h⟩ => by simp [fits_length h]
  | [], _ :: _, h => h.elim
  | _ :: _, [], h => h.elim
theorem fits_append : ∀ {ks ls : List Kd} {vs : List Value}, fits (ks ++ ls) vs → fits ks (vs.take ks.length) ∧ fits ls (vs.drop ks.length)
  | [], _, _, h => ⟨by simp [fits], by simpa using h⟩
  | _ :: ks, ls, [], h => h.elim
  | k :: ks, ls, v :: vs, ⟨h1, h2⟩ => by
    have := fits_append h2
    exact ⟨⟨h1, by simpa using this.1⟩, by simpa using this.2⟩
theorem sames_append : ∀ {xs ys cs ds : List Value}, xs.length = ys.length → sames (xs ++ cs) (ys ++ ds) = (sames xs ys && sames cs ds)
  | [], [], _, _, _ => by simp [sames]
  | a :: xs, b :: ys, _, _, h => by simp [sames, sames_append (xs := xs) (ys := ys) (by simpa using h), Bool.and_assoc]
  | [], _ :: _, _, _, h => by simp at h
  | _ :: _, [], _, _, h => by simp at h
theorem sames_refl : ∀ {ks : List Kd} {vs : List Value}, fits ks vs → sames vs vs = true
  | [], [], _ => rfl
  | k :: ks, v :: vs, ⟨h1, h2⟩ => by
    have : same v v = true := by rcases k with _ | _ | k <;> cases v <;> simp_all [kfit, same]
    simp [sames, this, sames_refl h2]
  | [], _ :: _, h => h.elim
  | _ :: _, [], h => h.elim
theorem bytes_ext {a b : ByteArray} (h : a.toList = b.toList) : a = b := by
  have h1 := beq_toListBytes a b
  rw [h, beq_self_eq_true] at h1
  cases a; cases b
  congr 1
  exact eq_of_beq h1
theorem sames_eq : ∀ {ks : List Kd} {xs ys : List Value}, fits ks xs → fits ks ys → (sames xs ys = true ↔ xs = ys)
  | [], [], [], _, _ => by simp [sames]
  | k :: ks, a :: xs, b :: ys, ⟨h1, h2⟩, ⟨h3, h4⟩ => by
    have : same a b = true ↔ a = b := by
      rcases k with _ | _ | k <;> cases a <;> cases b <;> simp_all [kfit, same]
      exact ⟨fun h => bytes_ext h, fun h => by rw [h]⟩
    simp [sames, this, sames_eq h2 h4]
  | [], _ :: _, _, h, _ => h.elim
  | [], [], _ :: _, _, h => h.elim
  | _ :: _, [], _, h, _ => h.elim
  | _ :: _, _ :: _, [], _, h => h.elim

section
variable {P : Program}
theorem run_part_flat (w : World) {m : Nat} {e : TypeId} {ks : List Kd} (hk : kindsOf P m e = some ks) (hl : ks.length = P.cellsOf e) {xs : Array Value} {off : Nat} (hf : fits ks ((xs.toList.drop off).take ks.length)) :
    ∃ a, (part e xs off).run P w = .ok a w ∧ a.formed P e = true ∧ a.cells.toList = (xs.toList.drop off).take ks.length := by
  cases m with
  | zero => simp [kindsOf] at hk
  | succ m =>
    have hlen := fits_length hf
    cases hu : P.underlying e with
    | none => simp [kindsOf, hu] at hk
    | some kd =>
      have agg : (∃ n e', kd = .array n e') ∨ (∃ fs, kd = .struct fs) → ∃ a, (part e xs off).run P w = .ok a w ∧ a.formed P e = true ∧ a.cells.toList = (xs.toList.drop off).take ks.length := by
        intro hkd
        obtain ⟨i, hi⟩ := info_of_underlying hu
        have hx : (xs.extract off (off + P.cellsOf e)).toList = (xs.toList.drop off).take ks.length := by
          rw [Array.toList_extract, hl]
          simp [List.extract]
        refine ⟨.agg (xs.extract off (off + P.cellsOf e)), ?_, ?_, hx⟩
        · rcases hkd with ⟨n, e', rfl⟩ | ⟨fs, rfl⟩ <;> simp [part, isAgg, run_underlying hu, run_sizeOf w hi]
        · have hs : (xs.extract off (off + P.cellsOf e)).size = P.cellsOf e := by rw [← Array.length_toList, hx, hlen, hl]
          rcases hkd with ⟨n, e', rfl⟩ | ⟨fs, rfl⟩ <;> simp [Value.formed, hu, hs]
      have plain : ∀ k : Kd, ks = [k] → P.plainKey e = true → ∃ a, (part e xs off).run P w = .ok a w ∧ a.formed P e = true ∧ a.cells.toList = (xs.toList.drop off).take ks.length := by
        intro k hks hp
        subst hks
        match hd : (xs.toList.drop off).take 1, hf with
        | [v], ⟨hv, _⟩ =>
          refine ⟨v, run_part_plain w hp (getElem?_of_chunk hd), ?_, ?_⟩
          · cases kd <;> simp [Program.plainKey, hu] at hp <;> rcases k with _ | _ | k <;> cases v <;> simp_all [kfit, Value.formed]
          · rcases k with _ | _ | k <;> cases v <;> simp_all [kfit, Value.cells]
      cases kd
      case bool => exact plain none (by simpa [kindsOf, hu] using hk.symm) (by simp [Program.plainKey, hu])
      case int q => exact plain (some (some q)) (by simpa [kindsOf, hu] using hk.symm) (by simp [Program.plainKey, hu])
      case string => exact plain (some none) (by simpa [kindsOf, hu] using hk.symm) (by simp [Program.plainKey, hu])
      case array n e' => exact agg (.inl ⟨n, e', rfl⟩)
      case struct fs => exact agg (.inr ⟨fs, rfl⟩)
      all_goals (simp [kindsOf, hu] at hk; done)

/-- At one type: equality is cell by cell. -/
def FlatAt (P : Program) (d m : Nat) (t : TypeId) : Prop :=
  ∀ (ks : List Kd) (w : World) (x y : Value), kindsOf P m t = some ks → ks.length = P.cellsOf t → x.formed P t = true → y.formed P t = true → fits ks x.cells.toList → fits ks y.cells.toList →
    (Op.equalIn d t x y).run P w = .ok (sames x.cells.toList y.cells.toList) w

theorem kindsF_acc {kinds : TypeId → Option (List Kd)} : ∀ {fs : List Field} {acc ks : List Kd}, kindsF P kinds fs acc = some ks → ∃ r, ks = acc ++ r
  | [], acc, ks, h => by simp [kindsF] at h; exact ⟨[], by simp [h]⟩
  | f :: fs, acc, ks, h => by
    simp only [kindsF] at h
    split at h
    · split at h
      · obtain ⟨r, hr⟩ := kindsF_acc h
        exact ⟨_, by rw [hr, List.append_assoc]⟩
      · cases h
    · cases h

theorem run_eqFields_flat {d m : Nat} (IH : ∀ t, FlatAt P d m t) (xs ys : Array Value) (w : World) : ∀ (fs : List Field) (acc ks : List Kd), kindsF P (kindsOf P m) fs acc = some ks → fits (ks.drop acc.length) (xs.toList.drop acc.length) → fits (ks.drop acc.length) (ys.toList.drop acc.length) →
    (Op.eqFields d xs ys fs).run P w = .ok (sames (xs.toList.drop acc.length) (ys.toList.drop acc.length)) w
  | [], acc, ks, h, hx, hy => by
    simp only [kindsF, Option.some.injEq] at h
    subst h
    have e1 : xs.toList.drop acc.length = [] := List.eq_nil_of_length_eq_zero (by rw [fits_length hx]; simp)
    rw [e1]
    simp [Op.eqFields, sames]
  | f :: fs, acc, ks, h, hx, hy => by
    simp only [kindsF] at h
    split at h
    case h_2 => cases h
    case h_1 k hk =>
      split at h
      case isFalse => cases h
      case isTrue hc =>
        obtain ⟨hl, ho, hn⟩ := hc
        obtain ⟨r, hr⟩ := kindsF_acc h
        have hks : ks.drop acc.length = k ++ r := by rw [hr, List.append_assoc, List.drop_left]
        rw [hks] at hx hy
        obtain ⟨x1, x2⟩ := fits_append hx
        obtain ⟨y1, y2⟩ := fits_append hy
        obtain ⟨a, a1, a2, a3⟩ := run_part_flat w hk hl (xs := xs) (off := acc.length) x1
        obtain ⟨b, b1, b2, b3⟩ := run_part_flat w hk hl (xs := ys) (off := acc.length) y1
        have he := IH f.type k w a b hk hl a2 b2 (by rw [a3]; exact x1) (by rw [b3]; exact y1)
        rw [List.drop_drop] at x2 y2
        have hr' : ks.drop (acc ++ k).length = r := by rw [hr, List.drop_left]
        have ih := run_eqFields_flat IH xs ys w fs (acc ++ k) ks h (by rw [hr', List.length_append]; exact x2) (by rw [hr', List.length_append]; exact y2)
        have hsplit : sames (xs.toList.drop acc.length) (ys.toList.drop acc.length) = (sames a.cells.toList b.cells.toList && sames (xs.toList.drop (acc ++ k).length) (ys.toList.drop (acc ++ k).length)) := by
          rw [a3, b3, List.length_append, ← List.drop_drop, ← List.drop_drop, ← sames_append (by rw [fits_length x1, fits_length y1]), List.take_append_drop, List.take_append_drop]
        rw [hsplit]
        simp only [Op.eqFields, hn, ne_eq, not_false_eq_true, if_true, Sem.run_bind, ho, a1, b1, he, Result.andThen_ok, Sem.run_ite, Sem.run_pure, ih]
        cases sames a.cells.toList b.cells.toList <;> simp

theorem run_eqItems_flat {d m : Nat} {e : TypeId} {ks : List Kd} (IH : FlatAt P d m e) (hk : kindsOf P m e = some ks) (hl : ks.length = P.cellsOf e) (xs ys : Array Value) (w : World) : ∀ (n j : Nat),
    fits (List.replicate n ks).flatten (xs.toList.drop (j * ks.length)) → fits (List.replicate n ks).flatten (ys.toList.drop (j * ks.length)) →
    (Op.eqItems d e (P.cellsOf e) xs ys (List.range' j n)).run P w = .ok (sames (xs.toList.drop (j * ks.length)) (ys.toList.drop (j * ks.length))) w
  | 0, j, hx, hy => by
    have e1 : xs.toList.drop (j * ks.length) = [] := List.eq_nil_of_length_eq_zero (by rw [fits_length hx]; simp)
    rw [e1]
    simp [Op.eqItems, sames]
  | n + 1, j, hx, hy => by
    rw [List.replicate_succ, List.flatten_cons] at hx hy
    obtain ⟨x1, x2⟩ := fits_append hx
    obtain ⟨y1, y2⟩ := fits_append hy
    obtain ⟨a, a1, a2, a3⟩ := run_part_flat w hk hl (xs := xs) (off := j * ks.length) x1
    obtain ⟨b, b1, b2, b3⟩ := run_part_flat w hk hl (xs := ys) (off := j * ks.length) y1
    have he := IH ks w a b hk hl a2 b2 (by rw [a3]; exact x1) (by rw [b3]; exact y1)
    rw [List.drop_drop] at x2 y2
    have hj : (j + 1) * ks.length = j * ks.length + ks.length := by rw [Nat.add_mul, Nat.one_mul]
    have ih := run_eqItems_flat IH hk hl xs ys w n (j + 1) (by rw [hj]; exact x2) (by rw [hj]; exact y2)
    have hsplit : sames (xs.toList.drop (j * ks.length)) (ys.toList.drop (j * ks.length)) = (sames a.cells.toList b.cells.toList && sames (xs.toList.drop ((j + 1) * ks.length)) (ys.toList.drop ((j + 1) * ks.length))) := by
      rw [a3, b3, hj, ← List.drop_drop, ← List.drop_drop, ← sames_append (by rw [fits_length x1, fits_length y1]), List.take_append_drop, List.take_append_drop]
    rw [hsplit, List.range'_succ]
    rw [← hl] at ih ⊢
    simp only [Op.eqItems, Sem.run_bind, a1, b1, he, Result.andThen_ok, Sem.run_ite, Sem.run_pure, ih]
    cases sames a.cells.toList b.cells.toList <;> simp

theorem flatAt (d : Nat) : ∀ (m : Nat) (t : TypeId), FlatAt P (d + m) m t
  | 0, t => by intro ks w x y hk; simp [kindsOf] at hk
  | m + 1, t => by
    intro ks w x y hk hl fx fy hx hy
    unfold kindsOf at hk
    cases hu : P.underlying t with
    | none => simp [hu] at hk
    | some kd =>
      cases kd
      case bool =>
        simp only [hu, Option.some.injEq] at hk
        subst hk
        obtain ⟨a, rfl⟩ : ∃ a, x = .bool a := by cases x <;> simp_all [Value.formed, Value.cells, fits, kfit]
        obtain ⟨b, rfl⟩ : ∃ b, y = .bool b := by cases y <;> simp_all [Value.formed, Value.cells, fits, kfit]
        rw [← Nat.add_assoc, run_equalIn_bool' w (d + m) t a b hu]
        simp [Value.cells, sames, same]
      case int q =>
        simp only [hu, Option.some.injEq] at hk
        subst hk
        obtain ⟨a, rfl⟩ : ∃ a, x = .int q a := by cases x <;> simp_all [Value.formed, Value.cells, fits, kfit]
        obtain ⟨b, rfl⟩ : ∃ b, y = .int q b := by cases y <;> simp_all [Value.formed, Value.cells, fits, kfit]
        rw [← Nat.add_assoc, run_equalIn_int w (d + m) t q q a b hu]
        simp [Value.cells, sames, same]
      case string =>
        simp only [hu, Option.some.injEq] at hk
        subst hk
        obtain ⟨a, rfl⟩ : ∃ a, x = .string a := by cases x <;> simp_all [Value.formed, Value.cells, fits, kfit]
        obtain ⟨b, rfl⟩ : ∃ b, y = .string b := by cases y <;> simp_all [Value.formed, Value.cells, fits, kfit]
        rw [← Nat.add_assoc, run_equalIn_string w (d + m) t a b hu]
        simp [Value.cells, sames, same]
      case array n e =>
        simp only [hu] at hk
        split at hk
        case h_2 => cases hk
        case h_1 k hke =>
          split at hk
          case isFalse => cases hk
          case isTrue hle =>
            simp only [Option.some.injEq] at hk
            subst hk
            obtain ⟨a, rfl⟩ : ∃ a, x = .agg a := by cases x <;> simp_all [Value.formed]
            obtain ⟨b, rfl⟩ : ∃ b, y = .agg b := by cases y <;> simp_all [Value.formed]
            have hpe : ∃ i, P.info? e = some i := by
              cases m with
              | zero => simp [kindsOf] at hke
              | succ m' =>
                unfold kindsOf at hke
                cases hue : P.underlying e with
                | none => simp [hue] at hke
                | some _ => exact info_of_underlying hue
            obtain ⟨i, hi⟩ := hpe
            have := run_eqItems_flat (flatAt d m e) hke hle a b w n 0 (by simpa [Value.cells] using hx) (by simpa [Value.cells] using hy)
            rw [← Nat.add_assoc, run_equalIn_array w (d + m) a b hu hi, List.range_eq_range', this]
            simp [Value.cells]
      case struct fs =>
        simp only [hu] at hk
        split at hk
        case isFalse => cases hk
        case isTrue hp =>
          obtain ⟨a, rfl⟩ : ∃ a, x = .agg a := by cases x <;> simp_all [Value.formed]
          obtain ⟨b, rfl⟩ : ∃ b, y = .agg b := by cases y <;> simp_all [Value.formed]
          have hfs : P.fieldsOf t = fs := by simp [Program.fieldsOf, hu]
          have := run_eqFields_flat (flatAt d m) a b w fs.toList [] ks hk (by simpa [Value.cells] using hx) (by simpa [Value.cells] using hy)
          rw [← Nat.add_assoc, run_equalIn_struct w (d + m) t a b (by rw [hfs]; exact hu) hp, hfs, this]
          simp [Value.cells]
      all_goals (simp [hu] at hk; done)

/-- == and != on two structs or arrays of a flat type. -/
theorem run_eql_flat (w : World) (m : Nat) (hm : m ≤ 10000) {t : TypeId} {ks : List Kd} {n : Nat} (hk : kindsOf P m t = some ks) (hl : ks.length = n) (hn : P.cellsOf t = n) {d : TypeDesc} (hu : P.underlying t = some d) (hd : d.isRow = true)
    {xs ys : Array Value} (hx : fits ks xs.toList) (hy : fits ks ys.toList) : (binOp .eql t (.agg xs) (.agg ys)).run P w = .ok (.bool (sames xs.toList ys.toList)) w := by
  have form : ∀ zs : Array Value, fits ks zs.toList → (Value.agg zs).formed P t = true := fun zs h => by
    have := fits_length h
    cases d <;> simp_all [Value.formed, TypeDesc.isRow]
  rw [run_eql_struct]
  have := flatAt (P := P) (10000 - m) m t ks w (.agg xs) (.agg ys) hk (by omega) (form _ hx) (form _ hy) (by simpa [Value.cells] using hx) (by simpa [Value.cells] using hy)
  rw [show 10000 = 10000 - m + m by omega, this]
  simp [Value.cells]
theorem run_neq_flat (w : World) (m : Nat) (hm : m ≤ 10000) {t : TypeId} {ks : List Kd} {n : Nat} (hk : kindsOf P m t = some ks) (hl : ks.length = n) (hn : P.cellsOf t = n) {d : TypeDesc} (hu : P.underlying t = some d) (hd : d.isRow = true)
    {xs ys : Array Value} (hx : fits ks xs.toList) (hy : fits ks ys.toList) : (binOp .neq t (.agg xs) (.agg ys)).run P w = .ok (.bool (!sames xs.toList ys.toList)) w := by
  have form : ∀ zs : Array Value, fits ks zs.toList → (Value.agg zs).formed P t = true := fun zs h => by
    have := fits_length h
    cases d <;> simp_all [Value.formed, TypeDesc.isRow]
  rw [run_neq_struct]
  have := flatAt (P := P) (10000 - m) m t ks w (.agg xs) (.agg ys) hk (by omega) (form _ hx) (form _ hy) (by simpa [Value.cells] using hx) (by simpa [Value.cells] using hy)
  rw [show 10000 = 10000 - m + m by omega, this]
  simp [Value.cells]
end

theorem fits_replicate (k : Kd) : ∀ (vs : List Value), (∀ v ∈ vs, kfit k v) → fits (List.replicate vs.length k) vs
  | [], _ => trivial
  | v :: vs, h => ⟨h v (by simp), fits_replicate k vs fun x hx => h x (by simp [hx])⟩
theorem fits_ints (k : IntKind) (n : Nat) (c : Nat → Int) : fits (List.replicate n (some (some k))) (ints k n c).toList := by
  have := fits_replicate (some (some k)) (ints k n c).toList (fun v hv => by
    simp only [ints, List.mem_map] at hv
    obtain ⟨i, _, rfl⟩ := hv
    rfl)
  simpa [ints] using this
end Go.Proofs.YtlpkimpdeeiaaaaGreat
