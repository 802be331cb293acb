/-
  Slices that came in, opened for reading: of integers, and of structs of integers.
-/
import Derived.Test.YtdljloohgidbfaaPost
import Derived.Test.YtdljloohgidbfaaMem
import Derived.Deep.Slices
import Derived.Deep.Fields
import Derived.ChangeSame
namespace Go.Args
open Go Go.ChangeShapes Go.WideShapes Go.ChangeAt Go.RowKit Go.Deep

/-- v is a slice of xs, each of sz cells, to be read -/
def RdSl (w : World) (sz : Nat) (v : Value) (xs : List (List Value)) : Prop :=
  ∃ a cap, v = .slice a xs.length cap ∧ xs.length ≤ cap ∧ cap ≤ maxLen ∧ ∀ i x, xs[i]? = some x → ∃ g o, a = some ⟨g, o, none⟩ ∧ g < w.heap.size ∧ w.rangeAt g (o + i * sz) x

theorem rangeAt_block {w w' : World} {g o : Nat} {x : List Value} (h : w.rangeAt g o x) (hb : w'.heap[g]? = w.heap[g]?) : w'.rangeAt g o x := by
  intro j v hv
  have := h j v hv
  unfold World.cell? at this ⊢
  simp only at this ⊢
  rw [hb]; exact this

theorem RdSl.at {w w' : World} {sz : Nat} {v : Value} {xs : List (List Value)} (h : RdSl w sz v xs) (hB : Below w.heap.size w w') {i : Nat} {x : List Value} (hx : xs[i]? = some x) : ∃ g o cap, v = .slice (some ⟨g, o, none⟩) xs.length cap ∧ w'.rangeAt g (o + i * sz) x := by
  obtain ⟨a, cap, rfl, _, _, hr⟩ := h
  obtain ⟨g, o, rfl, hg, hra⟩ := hr i x hx
  exact ⟨g, o, cap, rfl, rangeAt_block hra (hB.block g hg)⟩

theorem spot_of {w : World} {a : Addr} {v : Value} (h : w.cell? a = some v) : a = ⟨a.block, a.off, none⟩ ∧ a.block < w.heap.size := by
  obtain ⟨b, o, s⟩ := a
  unfold World.cell? at h
  simp only at h
  split at h
  · rename_i hb
    split at h
    · cases h
    · rename_i hs
      refine ⟨?_, (Array.getElem?_eq_some_iff.1 hb).1⟩
      cases s <;> simp_all
  · cases h

theorem u8_of {z : Int} (h : (Lit.int .u8 z).wf = true) : 0 ≤ z ∧ z ≤ 255 := by
  have e1 : IntKind.u8.min = 0 := by decide
  have e2 : IntKind.u8.max = 255 := by decide
  unfold Lit.wf at h
  rw [Bool.and_eq_true, decide_eq_true_eq, decide_eq_true_eq, e1, e2] at h
  exact h
theorem i64_of {z : Int} (h : (Lit.int .i64 z).wf = true) : -9223372036854775808 ≤ z ∧ z ≤ 9223372036854775807 := by
  have e1 : IntKind.i64.min = -9223372036854775808 := by decide
  have e2 : IntKind.i64.max = 9223372036854775807 := by decide
  unfold Lit.wf at h
  rw [Bool.and_eq_true, decide_eq_true_eq, decide_eq_true_eq, e1, e2] at h
  exact h
theorem u64_of {z : Int} (h : (Lit.int .u64 z).wf = true) : 0 ≤ z ∧ z ≤ 18446744073709551615 := by
  have e1 : IntKind.u64.min = 0 := by decide
  have e2 : IntKind.u64.max = 18446744073709551615 := by decide
  unfold Lit.wf at h
  rw [Bool.and_eq_true, decide_eq_true_eq, decide_eq_true_eq, e1, e2] at h
  exact h
theorem u32_of {z : Int} (h : (Lit.int .u32 z).wf = true) : 0 ≤ z ∧ z ≤ 4294967295 := by
  have e1 : IntKind.u32.min = 0 := by decide
  have e2 : IntKind.u32.max = 4294967295 := by decide
  unfold Lit.wf at h
  rw [Bool.and_eq_true, decide_eq_true_eq, decide_eq_true_eq, e1, e2] at h
  exact h
theorem u16_of {z : Int} (h : (Lit.int .u16 z).wf = true) : 0 ≤ z ∧ z ≤ 65535 := by
  have e1 : IntKind.u16.min = 0 := by decide
  have e2 : IntKind.u16.max = 65535 := by decide
  unfold Lit.wf at h
  rw [Bool.and_eq_true, decide_eq_true_eq, decide_eq_true_eq, e1, e2] at h
  exact h
section
variable {H : Type} {enc : TypeId × Value → H} {P : Program} {w : World}

theorem open_slice_fields {base : Nat} {spare : Nat → Bool} {held : Bool} {t e : TypeId} {fs : Array Field} {fuel : Nat} {cs : List Value} {x : DataW H × List MemPlace} (ht : P.underlying t = some (.slice e)) (he : P.underlying e = some (.struct fs))
    (hone : oneCellFields P fs = true) (hC : P.cellsOf e = fs.size) (h : DataW.trod enc P w base spare held fuel t cs = some x) :
    (cs = [.slice none 0 0]) ∨
    ∃ (a : Addr) (len cap m : Nat), cs = [.slice (some a) len cap] ∧ len ≤ cap ∧ cap ≤ maxLen ∧ m = (if spare a.block then cap else len) ∧
      ∀ i, i < m → ∃ (n : Nat), ∀ (j : Nat) (f : Field), fs[j]? = some f → ∃ (v : Value) (y : DataW H × List MemPlace), w.cell? (a.add (i * fs.size + j)) = some v ∧ DataW.trod enc P w base spare held n f.type [v] = some y := by
  rcases open_slice ht h with h0 | ⟨a, len, cap, m, n, D, Pl, hcs, hb, hl, hm, hmm, hx, hi⟩
  · exact .inl h0.1
  · refine .inr ⟨a, len, cap, m, hcs, hl, hm, hmm, fun i him => ?_⟩
    obtain ⟨cs', hc, ht'⟩ := hi i him
    rw [hC] at hc
    obtain ⟨ys, n', hn', hy, hlen, hyl, hf⟩ := DataW.trod_struct he ht'
    obtain ⟨_, hcl, hat⟩ := World.cells?_some hc
    refine ⟨n', fun j f hj => ?_⟩
    obtain ⟨ho, hk⟩ := hone_of hone j f hj
    have hjl : j < fs.size := (Array.getElem?_eq_some_iff.1 hj).1
    have hcell := hat j hjl
    have hv : cs'[j]? = some (cs'[j]'(by omega)) := List.getElem?_eq_getElem (by omega)
    have h1 := hf j f hj
    rw [ho, hk] at h1
    have hone' : (cs'.drop j).take 1 = [cs'[j]'(by omega)] := by
      rw [List.drop_eq_getElem_cons (by omega)]
      rfl
    rw [hone'] at h1
    have hys : ys[j]? = some (ys[j]'(by omega)) := List.getElem?_eq_getElem (by omega)
    refine ⟨_, _, ?_, h1.trans hys⟩
    rw [← Go.Deep.add_add, hcell, hv]

/-- a slice of structs of integers -/
theorem open_int_structs {t e : TypeId} {fs : Array Field} {ks : List IntKind} {v : Value} {d : DataW H} {ps : List MemPlace} (ht : P.underlying t = some (.slice e)) (he : P.underlying e = some (.struct fs)) (hone : oneCellFields P fs = true) (hC : P.cellsOf e = fs.size)
    (hpos : 0 < ks.length) (hks : fs.toList.map (fun f => P.underlying f.type) = ks.map fun k => some (.int k)) (hv : ∃ a len cap, v = .slice a len cap) (h : DataW.Trod enc P w 0 (fun _ => true) true t v d ps) :
    ∃ xs : List (List Int), (∀ x ∈ xs, x.length = ks.length ∧ ∀ (j : Nat) (k : IntKind) (n : Int), ks[j]? = some k → x[j]? = some n → (Lit.int k n).wf = true) ∧ RdSl w ks.length v (xs.map fun x => List.zipWith (fun k n => Value.int k n) ks x) := by
  obtain ⟨a0, len0, cap0, rfl⟩ := hv
  obtain ⟨fuel, hf⟩ := h
  have hsz : fs.size = ks.length := by
    have := congrArg List.length hks
    simpa using this
  have nilc : len0 = 0 → len0 ≤ cap0 → cap0 ≤ maxLen → ∃ xs : List (List Int), (∀ x ∈ xs, x.length = ks.length ∧ ∀ (j : Nat) (k : IntKind) (n : Int), ks[j]? = some k → x[j]? = some n → (Lit.int k n).wf = true) ∧ RdSl w ks.length (.slice a0 len0 cap0) (xs.map fun x => List.zipWith (fun k n => Value.int k n) ks x) := fun h0 h1 h2 =>
    ⟨[], fun x hx => (by cases hx), a0, cap0, by rw [h0]; rfl, by simp, h2, fun i x hx => by simp at hx⟩
  rcases open_slice_fields ht he hone hC hf with h1 | ⟨a, len, cap, m, h1, hlc, hcm, hm, hcell⟩
  · simp [Value.cells] at h1
    obtain ⟨rfl, rfl, rfl⟩ := h1
    exact nilc rfl (Nat.le_refl _) (by unfold maxLen; omega)
  · simp [Value.cells] at h1
    obtain ⟨rfl, rfl, rfl⟩ := h1
    by_cases h0 : len0 = 0
    · exact nilc h0 hlc hcm
    · simp only [if_true] at hm
      subst hm
      have key : ∀ i, i < len0 → ∃ x : List Int, x.length = ks.length ∧ (∀ (j : Nat) (k : IntKind) (n : Int), ks[j]? = some k → x[j]? = some n → (Lit.int k n).wf = true) ∧ ∀ (j : Nat) (k : IntKind) (n : Int), ks[j]? = some k → x[j]? = some n → w.cell? (a.add (i * ks.length + j)) = some (.int k n) := by
        intro i hi
        obtain ⟨n, hn⟩ := hcell i (by omega)
        have each : ∀ j, j < ks.length → ∃ z : Int, ∀ k, ks[j]? = some k → (Lit.int k z).wf = true ∧ w.cell? (a.add (i * ks.length + j)) = some (.int k z) := by
          intro j hj
          have hjf : j < fs.size := by omega
          have hfj : fs[j]? = some fs[j] := Array.getElem?_eq_getElem hjf
          obtain ⟨v, y, hc, hty⟩ := hn j _ hfj
          have hkj : ks[j]? = some ks[j] := List.getElem?_eq_getElem hj
          have hu : P.underlying fs[j].type = some (.int ks[j]) := by
            have := congrArg (fun l => l[j]?) hks
            simp only [List.getElem?_map, hkj, Option.map_some] at this
            rw [show fs.toList[j]? = some fs[j] by simp] at this
            simpa using this
          obtain ⟨z, hz, _, hw⟩ := DataW.trod_int hu hty
          refine ⟨z, fun k hk => ?_⟩
          rw [hkj] at hk; cases hk
          refine ⟨hw, ?_⟩
          rw [← hsz, hc]
          simp at hz
          rw [hz]
        obtain ⟨z, hz⟩ := choose_lt (α := Int) (p := fun j z => ∀ k, ks[j]? = some k → (Lit.int k z).wf = true ∧ w.cell? (a.add (i * ks.length + j)) = some (.int k z)) each
        refine ⟨(List.range ks.length).map z, by simp, fun j k n hk hn => ?_, fun j k n hk hn => ?_⟩
        · have hj : j < ks.length := (List.getElem?_eq_some_iff.1 hk).1
          simp [hj] at hn
          rw [← hn]; exact (hz j hj k hk).1
        · have hj : j < ks.length := (List.getElem?_eq_some_iff.1 hk).1
          simp [hj] at hn
          rw [← hn]; exact (hz j hj k hk).2
      obtain ⟨f, hfz⟩ := choose_lt (α := List Int) (p := fun i x => x.length = ks.length ∧ (∀ (j : Nat) (k : IntKind) (n : Int), ks[j]? = some k → x[j]? = some n → (Lit.int k n).wf = true) ∧ ∀ (j : Nat) (k : IntKind) (n : Int), ks[j]? = some k → x[j]? = some n → w.cell? (a.add (i * ks.length + j)) = some (.int k n)) key
      refine ⟨(List.range len0).map f, fun x hx => ?_, some a, _, by simp only [List.length_map, List.length_range], by simpa using hlc, hcm, fun i x hx => ?_⟩
      · obtain ⟨i, hi, rfl⟩ := List.mem_map.1 hx
        have := hfz i (List.mem_range.1 hi)
        exact ⟨this.1, this.2.1⟩
      · rw [List.getElem?_map, List.getElem?_map] at hx
        by_cases hi : i < len0
        · simp [hi] at hx
          subst hx
          have hh := hfz i hi
          have h00 := (hfz 0 (by omega)).2.2 0 (ks[0]'hpos) ((f 0)[0]'(by rw [(hfz 0 (by omega)).1]; exact hpos)) (List.getElem?_eq_getElem _) (List.getElem?_eq_getElem _)
          have ha0 : a.add (0 * ks.length + 0) = a := by unfold Addr.add; simp
          rw [ha0] at h00
          obtain ⟨ha, hlt⟩ := spot_of h00
          refine ⟨a.block, a.off, by rw [← ha], hlt, fun j u hu => ?_⟩
          rw [List.getElem?_zipWith] at hu
          cases hkj : ks[j]? with
          | none => rw [hkj] at hu; simp at hu
          | some k =>
            cases hnj : (f i)[j]? with
            | none => rw [hkj, hnj] at hu; simp at hu
            | some n =>
              rw [hkj, hnj] at hu
              simp at hu
              subst hu
              have h2 := hh.2.2 j k n hkj hnj
              rw [ha, Addr.add_mid] at h2
              rw [Nat.add_assoc]; exact h2
        · simp [hi] at hx

/-- a slice of integers -/
theorem open_ints {t e : TypeId} {k : IntKind} {v : Value} {d : DataW H} {ps : List MemPlace} (ht : P.underlying t = some (.slice e)) (he : P.underlying e = some (.int k)) (hc : P.cellsOf e = 1) (hv : ∃ a len cap, v = .slice a len cap) (h : DataW.Trod enc P w 0 (fun _ => true) true t v d ps) :
    ∃ zs : List Int, (∀ z ∈ zs, (Lit.int k z).wf = true) ∧ RdSl w 1 v (zs.map fun z => [.int k z]) := by
  obtain ⟨a0, len0, cap0, rfl⟩ := hv
  obtain ⟨fuel, hf⟩ := h
  have nilc : len0 = 0 → len0 ≤ cap0 → cap0 ≤ maxLen → ∃ zs : List Int, (∀ z ∈ zs, (Lit.int k z).wf = true) ∧ RdSl w 1 (.slice a0 len0 cap0) (zs.map fun z => [.int k z]) := fun h0 h1 h2 =>
    ⟨[], fun x hx => (by cases hx), a0, cap0, by rw [h0]; rfl, by simp, h2, fun i x hx => by simp at hx⟩
  rcases open_slice1 ht hc hf with ⟨h1, _⟩ | ⟨a, len, cap, m, n, V, D, Pl, h1, _, hlc, hcm, hm, _, hcell⟩
  · simp [Value.cells] at h1
    obtain ⟨rfl, rfl, rfl⟩ := h1
    exact nilc rfl (Nat.le_refl _) (by unfold maxLen; omega)
  · simp [Value.cells] at h1
    obtain ⟨rfl, rfl, rfl⟩ := h1
    by_cases h0 : len0 = 0
    · exact nilc h0 hlc hcm
    · simp only [if_true] at hm
      subst hm
      have key : ∀ i, i < len0 → ∃ z : Int, (Lit.int k z).wf = true ∧ w.cell? (a.add i) = some (.int k z) := by
        intro i hi
        obtain ⟨hc, hty⟩ := hcell i (by omega)
        obtain ⟨z, hz, _, hw⟩ := DataW.trod_int he hty
        simp at hz
        exact ⟨z, hw, by rw [hc, hz]⟩
      obtain ⟨f, hfz⟩ := choose_lt (α := Int) (p := fun i z => (Lit.int k z).wf = true ∧ w.cell? (a.add i) = some (.int k z)) key
      refine ⟨(List.range len0).map f, fun z hz => ?_, some a, _, by simp only [List.length_map, List.length_range], by simpa using hlc, hcm, fun i x hx => ?_⟩
      · obtain ⟨i, hi, rfl⟩ := List.mem_map.1 hz
        exact (hfz i (List.mem_range.1 hi)).1
      · rw [List.getElem?_map, List.getElem?_map] at hx
        by_cases hi : i < len0
        · simp [hi] at hx
          subst hx
          have h00 := (hfz 0 (by omega)).2
          have ha0 : a.add 0 = a := by unfold Addr.add; simp
          rw [ha0] at h00
          obtain ⟨ha, hlt⟩ := spot_of h00
          refine ⟨a.block, a.off, by rw [← ha], hlt, fun j u hu => ?_⟩
          cases j with
          | zero =>
            simp at hu
            subst hu
            have h2 := (hfz i hi).2
            rw [ha, Addr.add_mid] at h2
            rw [Nat.mul_one, Nat.add_zero]; exact h2
          | succ j => simp at hu
        · simp [hi] at hx
end
end Go.Args
