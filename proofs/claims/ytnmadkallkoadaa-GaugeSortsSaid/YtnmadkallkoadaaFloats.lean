/-
  A slice of floats that came in, opened.
-/
import Derived.Test.YtnmadkallkoadaaPost
import Derived.Deep.Slices
import Derived.Laws.Cover2
namespace Go.LawPost
open Go.ChangeShapes Go.WideShapes Go.ChangeAt Go.RowKit Go.Deep

theorem addr_add (a : Addr) (h : a.spot = none) (i : Nat) : a.add i = ⟨a.block, a.off + i, none⟩ := by
  obtain ⟨b, o, s⟩ := a
  simp only at h; subst h
  unfold Addr.add
  split
  · rename_i h; subst h; rfl
  · rfl

theorem open_floats {H : Type} {enc : TypeId × Value → H} {P : Program} {w : World} {t e : TypeId} {k : FloatKind} {v : Value} {d : DataW H} {ps : List MemPlace}
    (ht : P.underlying t = some (.slice e)) (he : P.underlying e = some (.float k)) (hc : P.cellsOf e = 1) (hv : ∃ a len cap, v = .slice a len cap) (h : DataW.Trod enc P w 0 (fun _ => true) true t v d ps) :
    (∃ a cap, v = .slice a 0 cap) ∨
    ∃ (b off len cap : Nat) (zs : List Nat), v = .slice (some ⟨b, off, none⟩) len cap ∧ zs.length = len ∧ 0 < len ∧ len ≤ cap ∧ cap ≤ maxLen ∧ (∀ x ∈ zs, (Lit.float k x).wf = true) ∧ ∀ i, i < len → w.cell? ⟨b, off + i, none⟩ = some (.float k (zs.getD i 0)) := by
  obtain ⟨a0, len0, cap0, rfl⟩ := hv
  obtain ⟨fuel, hf⟩ := h
  rcases open_slice1 ht hc hf with ⟨h1, _⟩ | ⟨a, len, cap, m, n, V, D, Pl, h1, _, hlc, hcm, hm, _, hcell⟩
  · left
    simp [Value.cells] at h1
    obtain ⟨rfl, rfl, rfl⟩ := h1
    exact ⟨_, _, rfl⟩
  · simp [Value.cells] at h1
    obtain ⟨rfl, rfl, rfl⟩ := h1
    by_cases h0 : len0 = 0
    · left; subst h0; exact ⟨_, _, rfl⟩
    · right
      simp only [if_true] at hm
      subst hm
      have hspot : a.spot = none := by
        have := (hcell 0 (by omega)).1
        have ha : a.add 0 = a := by unfold Addr.add; simp
        rw [ha] at this
        unfold World.cell? at this
        split at this
        · split at this
          · cases this
          · rename_i h; simpa using h
        · cases this
      have key : ∀ i, i < len0 → ∃ x, V i = .float k x ∧ (Lit.float k x).wf = true := by
        intro i hi
        obtain ⟨_, h2⟩ := hcell i (by omega)
        cases n with
        | zero => simp [DataW.trod] at h2
        | succ n =>
          cases hV : V i <;> rw [hV] at h2 <;> simp [DataW.trod, he] at h2
          obtain ⟨⟨rfl, hw⟩, _⟩ := h2
          exact ⟨_, rfl, hw⟩
      obtain ⟨f, hfz⟩ := choose_lt (α := Nat) (p := fun i x => V i = .float k x ∧ (Lit.float k x).wf = true) key
      refine ⟨a.block, a.off, len0, _, (List.range len0).map f, ?_, by simp, by omega, hlc, hcm, ?_, ?_⟩
      · obtain ⟨b, o, s⟩ := a
        simp only at hspot; subst hspot; rfl
      · intro x hx
        obtain ⟨i, hi, rfl⟩ := List.mem_map.1 hx
        exact (hfz i (List.mem_range.1 hi)).2
      · intro i hi
        rw [← addr_add a hspot, (hcell i (by omega)).1, (hfz i hi).1]
        simp [hi]
end Go.LawPost
