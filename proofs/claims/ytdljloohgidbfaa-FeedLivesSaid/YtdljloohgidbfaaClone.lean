/-
  The contract of slices.Clone at items, by the shelf's.
-/
import Derived.Test.YtdljloohgidbfaaEvents
import Derived.Shelf.SlicesE.Clone
import Derived.Shelf.SlGeneric
import Derived.Ground.SlgnProg
namespace Go.Proofs
open Go.Shelf
shelf_lay_g SlLaysE0.n41 Slgn 41 at Try 28 as Try.cloneL
end Go.Proofs
namespace Go.Proofs.Ytdljloohgidbfaa
open Go Go.RowKit Go.Mem Go.Shelf

theorem clone_any (v : Value) (xs : List It) (w : World) (h : Sl w 40 35 v (xs.map It.cells)) (hn : xs.length ≤ 1000) :
    Calls Try.prog 28 #[v] w fun e w' => ∃ v', e = .returned v' ∧ Sl w' 40 35 v' (xs.map It.cells) ∧ (∀ k, v'.ownBlock = some k → w.heap.size ≤ k) ∧ Below w.heap.size w w' := by
  obtain ⟨ie, hi, hz, hs, hb⟩ : ∃ ie, Try.prog.info? 40 = some ie ∧ ie.zero = some (.agg (itC 0 0 0 0).toArray) ∧ ie.size = 35 ∧ ie.bytes = 56 := by
    have h : (Try.prog.info? 40).map (fun i => (i.zero, i.size, i.bytes)) = some (some (.agg (itC 0 0 0 0).toArray), 35, 56) := by kernel_rfl
    cases hq : Try.prog.info? 40 with
    | none => rw [hq] at h; cases h
    | some i0 => rw [hq] at h; simp at h; exact ⟨i0, rfl, h.1, h.2.1, h.2.2⟩
  have hlen : ∀ x ∈ xs.map It.cells, x.length = 35 := h.1
  rcases h.2 with ⟨rfl, h0⟩ | ⟨g, o, cap, cur, rfl, hg, hnc, hcm, hfit, htake⟩
  · have hc := AnyE.slices_Clone_nil Try.cloneL 0 0 w
    change Calls Try.prog 28 _ _ _ at hc
    refine hc.mono fun e w' ⟨he, hw⟩ => ⟨_, he, ?_, fun k hk => (by simp [Value.ownBlock] at hk), by rw [hw]; exact Below.refl _ _⟩
    rw [h0]; exact Sl.nil _ _ _
  · have hc := AnyE.slices_Clone Try.cloneL ie _ 35 56 hi hz hs hb rfl (by decide) (fun _ => by kernel_rfl) g o (xs.map It.cells).length cap (xs.map It.cells).flatten w (flatten_length hlen) (by rw [List.length_map]; unfold maxLen; omega) (by rw [List.length_map]; omega)
      (fun j u hu => by
        rw [← htake, List.getElem?_take] at hu
        split at hu
        · rw [List.getElem?_drop] at hu
          simp only [World.cell?, hg]
          simpa using hu
        · cases hu)
      (fun u hu => by
        obtain ⟨y, hy, huy⟩ := List.mem_flatten.1 hu
        obtain ⟨t, _, rfl⟩ := List.mem_map.1 hy
        exact (List.all_eq_true.1 (show (t.cells.all (·.oneCell')) = true from rfl)) u huy)
    change Calls Try.prog 28 _ _ _ at hc
    exact hc.mono fun e w' ⟨v', he, hown, _, hB⟩ => ⟨v', he, Sl.of_owns hown hlen rfl, fun k hk => (hown.lt k hk).1, hB⟩
end Go.Proofs.Ytdljloohgidbfaa
