/-
  Equality of values of many cells: two are the same when their cells are.
-/
import Derived.WalkKit
import Derived.DeepKeys
import Derived.Deep.MidRow
namespace Go.Same
open Go

/-- fields one behind the other, all cells -/
def tiles (P : Program) (sh : TypeId → List Value → Bool) : List Field → Nat → List Value → Bool
  | [], off, cs => decide (cs.length = off)
  | f :: fs, off, cs => decide (f.offset = off) && f.name != "_" && decide (off + P.cellsOf f.type ≤ cs.length) && sh f.type ((cs.drop off).take (P.cellsOf f.type)) && tiles P sh fs (off + P.cellsOf f.type) cs
/-- the cells cs are those of a value of type t, which is made of integers, Bools and strings alone -/
def shapeB (P : Program) : Nat → TypeId → List Value → Bool
  | 0, _, _ => false
  | d + 1, t, cs =>
    match P.underlying t, cs with
    | some .bool, [.bool _] => true
    | some (.int q), [.int q' _] => decide (q' = q)
    | some .string, [.string _] => true
    | some (.array n e), cs => (P.info? e).isSome && decide (cs.length = n * P.cellsOf e) && (List.range n).all fun i => shapeB P d e ((cs.drop (i * P.cellsOf e)).take (P.cellsOf e))
    | some (.struct fs), cs => !P.stoodInHeld t && tiles P (shapeB P d) fs.toList 0 cs
    | _, _ => false

/-- the value of these cells -/
def wrapV (P : Program) (t : TypeId) (cs : List Value) : Value :=
  match P.underlying t with
  | some (.array _ _) | some (.struct _) => .agg cs.toArray
  | _ => cs.headD undef

variable {P : Program}

theorem run_part (w : World) {d : Nat} {e : TypeId} {xs : List Value} {off : Nat} (h : shapeB P d e ((xs.drop off).take (P.cellsOf e)) = true) : (part e xs.toArray off).run P w = .ok (wrapV P e ((xs.drop off).take (P.cellsOf e))) w := by
  cases d with
  | zero => simp [shapeB] at h
  | succ d =>
    unfold shapeB at h
    unfold wrapV
    cases hu : P.underlying e with
    | none => rw [hu] at h; simp at h
    | some kd =>
      rw [hu] at h
      obtain ⟨i, hi⟩ := info_of_underlying hu
      have one : ∀ v, (xs.drop off).take (P.cellsOf e) = [v] → xs.toArray[off]? = some v := fun v hv => by
        have h1 : ((xs.drop off).take (P.cellsOf e))[0]? = some v := by rw [hv]; rfl
        rw [List.getElem?_take] at h1
        split at h1
        · rw [List.getElem?_drop, Nat.add_zero] at h1
          simpa using h1
        · cases h1
      have hagg : ∀ b, kd.isRow = b → (isAgg e).run P w = .ok b w := fun b hb => by
        unfold isAgg
        rw [Sem.run_bind, run_underlying hu w]
        subst hb
        cases kd <;> rfl
      have hex : ∀ s, (xs.toArray.extract off (off + s)) = ((xs.drop off).take s).toArray := fun s => by
        apply Array.ext'
        simp [List.extract]
      cases kd
      case array n e' => simp [part, hagg true rfl, run_sizeOf w hi, hex]
      case struct fs => simp [part, hagg true rfl, run_sizeOf w hi, hex]
      all_goals
        obtain ⟨cs, hcs⟩ : ∃ cs, cs = (xs.drop off).take (P.cellsOf e) := ⟨_, rfl⟩
        rw [← hcs] at h one ⊢
        clear hcs hex
      case bool =>
        match cs, h with
        | [.bool b], _ => simp [part, hagg false rfl, one _ rfl]
      case int q =>
        match cs, h with
        | [.int q' n], _ => simp [part, hagg false rfl, one _ rfl]
      case string =>
        match cs, h with
        | [.string s], _ => simp [part, hagg false rfl, one _ rfl]
      all_goals (exfalso; revert h; cases cs <;> simp)

def EqT (P : Program) (dd d : Nat) (t : TypeId) : Prop :=
  ∀ (w : World) (xs ys : List Value), shapeB P d t xs = true → shapeB P d t ys = true → ∃ r : Bool, (Op.equalIn dd t (wrapV P t xs) (wrapV P t ys)).run P w = .ok r w ∧ (r = true ↔ xs = ys)

theorem drop_split {xs ys : List Value} {off s : Nat} : xs.drop off = ys.drop off ↔ (xs.drop off).take s = (ys.drop off).take s ∧ xs.drop (off + s) = ys.drop (off + s) := by
  have e : ∀ l : List Value, l.drop off = (l.drop off).take s ++ l.drop (off + s) := fun l => by
    rw [← List.drop_drop, List.take_append_drop]
  constructor
  · intro h
    exact ⟨by rw [h], by rw [← List.drop_drop, h, List.drop_drop]⟩
  · rintro ⟨h1, h2⟩
    rw [e xs, e ys, h1, h2]

theorem eq_fields (w : World) {dd d : Nat} {xs ys : List Value} : ∀ (fs : List Field) (off : Nat), (∀ f ∈ fs, EqT P dd d f.type) → tiles P (shapeB P d) fs off xs = true → tiles P (shapeB P d) fs off ys = true →
    ∃ r : Bool, (Op.eqFields dd xs.toArray ys.toArray fs).run P w = .ok r w ∧ (r = true ↔ xs.drop off = ys.drop off)
  | [], off, _, hx, hy => by
    unfold tiles at hx hy
    have hx := of_decide_eq_true hx
    have hy := of_decide_eq_true hy
    exact ⟨true, by simp [Op.eqFields], by simp [List.drop_of_length_le (Nat.le_of_eq hx), List.drop_of_length_le (Nat.le_of_eq hy)]⟩
  | f :: fs, off, hall, hx, hy => by
    unfold tiles at hx hy
    simp only [Bool.and_eq_true, decide_eq_true_eq, bne_iff_ne, ne_eq] at hx hy
    obtain ⟨⟨⟨⟨ho, hn⟩, _⟩, hsx⟩, htx⟩ := hx
    obtain ⟨⟨⟨⟨_, _⟩, _⟩, hsy⟩, hty⟩ := hy
    obtain ⟨r, hr, hi⟩ := hall f (List.mem_cons_self ..) w _ _ hsx hsy
    obtain ⟨r', hr', hi'⟩ := eq_fields w fs (off + P.cellsOf f.type) (fun g hg => hall g (List.mem_cons_of_mem _ hg)) htx hty
    simp only [Op.eqFields, hn, ne_eq, not_false_eq_true, if_true, Sem.run_bind, ho, run_part w hsx, run_part w hsy, hr, Result.andThen_ok]
    rw [drop_split (s := P.cellsOf f.type)]
    cases r
    · exact ⟨false, by simp, by simp; intro e; exact absurd (hi.2 e) (by simp)⟩
    · refine ⟨r', by simpa using hr', ?_⟩
      rw [hi']
      simp [hi.1 rfl]

theorem eq_items (w : World) {dd d : Nat} {e : TypeId} (IH : EqT P dd d e) {xs ys : List Value} : ∀ (k m : Nat), xs.length = (m + k) * P.cellsOf e → ys.length = (m + k) * P.cellsOf e →
    (∀ i, m ≤ i → i < m + k → shapeB P d e ((xs.drop (i * P.cellsOf e)).take (P.cellsOf e)) = true) → (∀ i, m ≤ i → i < m + k → shapeB P d e ((ys.drop (i * P.cellsOf e)).take (P.cellsOf e)) = true) →
    ∃ r : Bool, (Op.eqItems dd e (P.cellsOf e) xs.toArray ys.toArray (List.range' m k)).run P w = .ok r w ∧ (r = true ↔ xs.drop (m * P.cellsOf e) = ys.drop (m * P.cellsOf e))
  | 0, m, hx, hy, _, _ => ⟨true, by simp [Op.eqItems], by
      rw [List.drop_of_length_le (by rw [hx]; simp), List.drop_of_length_le (by rw [hy]; simp)]; simp⟩
  | k + 1, m, hx, hy, sx, sy => by
    obtain ⟨r, hr, hi⟩ := IH w _ _ (sx m (Nat.le_refl _) (by omega)) (sy m (Nat.le_refl _) (by omega))
    obtain ⟨r', hr', hi'⟩ := eq_items w IH (xs := xs) (ys := ys) k (m + 1) (by rw [hx]; congr 1; omega) (by rw [hy]; congr 1; omega) (fun i h1 h2 => sx i (by omega) (by omega)) (fun i h1 h2 => sy i (by omega) (by omega))
    rw [List.range'_succ]
    simp only [Op.eqItems, Sem.run_bind, run_part w (sx m (Nat.le_refl _) (by omega)), run_part w (sy m (Nat.le_refl _) (by omega)), hr, Result.andThen_ok]
    rw [drop_split (s := P.cellsOf e)]
    rw [Nat.succ_mul] at hi'
    cases r
    · exact ⟨false, by simp, by simp; intro e; exact absurd (hi.2 e) (by simp)⟩
    · refine ⟨r', by simpa using hr', ?_⟩
      rw [hi']
      simp [hi.1 rfl]

theorem eqT (k : Nat) : ∀ (d : Nat) (t : TypeId), EqT P (k + d) d t
  | 0, t => fun w xs ys hx _ => by simp [shapeB] at hx
  | d + 1, t => by
    intro w xs ys hx hy
    unfold shapeB at hx hy
    cases hu : P.underlying t with
    | none => rw [hu] at hx; simp at hx
    | some kd =>
      rw [hu] at hx hy
      cases kd
      case bool =>
        match xs, ys, hx, hy with
        | [.bool a], [.bool b], _, _ => exact ⟨a == b, by unfold wrapV; rw [hu]; exact run_equalIn_bool w (k + d) t a b hu, by simp⟩
      case int q =>
        match xs, ys, hx, hy with
        | [.int q1 a], [.int q2 b], hx, hy =>
          have h1 := of_decide_eq_true hx
          have h2 := of_decide_eq_true hy
          subst h1 h2
          exact ⟨a == b, by unfold wrapV; rw [hu]; exact run_equalIn_int w (k + d) t _ _ a b hu, by simp⟩
      case string =>
        match xs, ys, hx, hy with
        | [.string a], [.string b], _, _ =>
          refine ⟨a.toList == b.toList, by unfold wrapV; rw [hu]; exact run_equalIn_string w (k + d) t a b hu, ?_⟩
          simp only [beq_iff_eq, List.cons.injEq, Value.string.injEq, and_true]
          refine ⟨fun h => ?_, fun h => by rw [h]⟩
          rw [ByteArray.toList_eq, ByteArray.toList_eq] at h
          obtain ⟨⟨x⟩⟩ := a
          obtain ⟨⟨y⟩⟩ := b
          simpa using h
      case array n e =>
        simp only [Bool.and_eq_true, decide_eq_true_eq] at hx hy
        obtain ⟨i, hi⟩ := Option.isSome_iff_exists.1 hx.1.1
        have ax : ∀ j, 0 ≤ j → j < 0 + n → shapeB P d e ((xs.drop (j * P.cellsOf e)).take (P.cellsOf e)) = true := fun j _ hj => List.all_eq_true.1 hx.2 j (List.mem_range.2 (by omega))
        have ay : ∀ j, 0 ≤ j → j < 0 + n → shapeB P d e ((ys.drop (j * P.cellsOf e)).take (P.cellsOf e)) = true := fun j _ hj => List.all_eq_true.1 hy.2 j (List.mem_range.2 (by omega))
        obtain ⟨r, hr, hi'⟩ := eq_items w (eqT k d e) n 0 (by rw [hx.1.2, Nat.zero_add]) (by rw [hy.1.2, Nat.zero_add]) ax ay
        refine ⟨r, ?_, by simpa using hi'⟩
        unfold wrapV
        rw [hu]
        rw [List.range_eq_range'.symm] at hr
        exact (run_equalIn_array w (k + d) xs.toArray ys.toArray hu hi).trans hr
      case struct fs =>
        simp only [Bool.and_eq_true, Bool.not_eq_true'] at hx hy
        obtain ⟨r, hr, hi⟩ := eq_fields w fs.toList 0 (fun f _ => eqT k d f.type) hx.2 hy.2
        have hf : P.fieldsOf t = fs := by unfold Program.fieldsOf; rw [hu]
        refine ⟨r, ?_, by simpa using hi⟩
        unfold wrapV
        rw [hu]
        have := run_equalIn_agg w (k + d) t xs.toArray ys.toArray (by rw [hf]; exact hu) hx.1
        rw [hf] at this
        exact this.trans hr
      all_goals (exfalso; revert hx; cases xs <;> simp)

/-- '==' and '!=' of two such values -/
theorem run_eql (w : World) {d : Nat} {t : TypeId} {xs ys : List Value} (hd : d ≤ 10000) (ha : (P.underlying t).any (·.isRow) = true) (hx : shapeB P d t xs = true) (hy : shapeB P d t ys = true) (b : Bool) (hb : b = true ↔ xs = ys) :
    (binOp .eql t (.agg xs.toArray) (.agg ys.toArray)).run P w = .ok (.bool b) w := by
  obtain ⟨r, hr, hi⟩ := eqT (P := P) (10000 - d) d t w xs ys hx hy
  have hrb : r = b := by rw [Bool.eq_iff_iff, hi, hb]
  have hwv : ∀ cs : List Value, wrapV P t cs = .agg cs.toArray := fun cs => by
    unfold wrapV
    cases hu : P.underlying t with
    | none => rw [hu] at ha; simp at ha
    | some kd => rw [hu] at ha; cases kd <;> first | rfl | (simp at ha; done)
  rw [show 10000 - d + d = 10000 by omega, hwv, hwv, hrb] at hr
  rw [run_eql_struct, hr]; rfl
theorem run_neq (w : World) {d : Nat} {t : TypeId} {xs ys : List Value} (hd : d ≤ 10000) (ha : (P.underlying t).any (·.isRow) = true) (hx : shapeB P d t xs = true) (hy : shapeB P d t ys = true) (b : Bool) (hb : b = true ↔ xs = ys) :
    (binOp .neq t (.agg xs.toArray) (.agg ys.toArray)).run P w = .ok (.bool (!b)) w := by
  obtain ⟨r, hr, hi⟩ := eqT (P := P) (10000 - d) d t w xs ys hx hy
  have hrb : r = b := by rw [Bool.eq_iff_iff, hi, hb]
  have hwv : ∀ cs : List Value, wrapV P t cs = .agg cs.toArray := fun cs => by
    unfold wrapV
    cases hu : P.underlying t with
    | none => rw [hu] at ha; simp at ha
    | some kd => rw [hu] at ha; cases kd <;> first | rfl | (simp at ha; done)
  rw [show 10000 - d + d = 10000 by omega, hwv, hwv, hrb] at hr
  rw [run_neq_struct, hr]; rfl
end Go.Same
