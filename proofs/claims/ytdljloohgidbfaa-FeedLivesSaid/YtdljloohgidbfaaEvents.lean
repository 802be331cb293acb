/-
  The contract of Events, of the laws.
-/
import Derived.Test.YtdljloohgidbfaaPush
import Derived.Laws.OwnMore
import Derived.Deep.AppendLies
namespace Go.Proofs.Ytdljloohgidbfaa
open Go Go.RowKit Go.Mem

/-- event number i of those from a version on -/
def evAt (from_ : Nat) (i : Nat) : Ev := ⟨1 + (i % 3 : Nat), i, (from_ + i : Nat)⟩
def evs (from_ : Nat) (k : Nat) : List Ev := (List.range k).map (evAt from_)
theorem evs_length (f k : Nat) : (evs f k).length = k := by simp [evs]
theorem evs_succ (f k : Nat) : evs f (k + 1) = evs f k ++ [evAt f k] := by simp [evs, List.range_succ]
theorem bs30 (a b v : Int) (w : World) : (Instr.buildSlice 30 1 #[(0, .agg (evC a b v).toArray)]).run Try.prog w = .ok (.slice (some ⟨w.heap.size, 0, none⟩) 1 1) (w.alloc (.cells (evC a b v).toArray 38)) := by
  obtain ⟨ie, hi, hz, hs⟩ : ∃ ie, Try.prog.info? 38 = some ie ∧ ie.zero = some (.agg (evC 0 0 0).toArray) ∧ ie.size = 34 := by
    have h : (Try.prog.info? 38).map (fun i => (i.zero, i.size)) = some (some (.agg (evC 0 0 0).toArray), 34) := by kernel_rfl
    cases hq : Try.prog.info? 38 with
    | none => rw [hq] at h; cases h
    | some i0 => rw [hq] at h; simp at h; exact ⟨i0, rfl, h.1, h.2⟩
  refine run_buildSlice w 30 38 1 _ _ ie _ Try.underlying30 hi hz (by rw [hs]; decide) (by rw [hs]; decide) ?_
  rw [hs]
  kernel_rfl

theorem cells_flat (f k : Nat) : (evs f (k + 1)).flatMap Ev.cells = (evs f k).flatMap Ev.cells ++ (evAt f k).cells := by
  rw [evs_succ, List.flatMap_append]; simp

set_option maxRecDepth 100000 in
set_option maxHeartbeats 4000000 in
theorem events_walk (f : Nat) (n : Int) (w : World) (hf : f < 1000000) :
    Calls Try.prog 11 #[.int .u64 f, .int .i64 n] w fun e w' => ∃ v, e = .returned v ∧ w'.ownsRow w.heap.size 38 34 v (min n.toNat 40) ((evs f (min n.toNat 40)).flatMap Ev.cells) ∧ Below w.heap.size w w' := by
  obtain ⟨ie, hi, hz, hs, hb⟩ : ∃ ie, Try.prog.info? 38 = some ie ∧ ie.zero = some (.agg (evC 0 0 0).toArray) ∧ ie.size = 34 ∧ ie.bytes = 48 := by
    have h : (Try.prog.info? 38).map (fun i => (i.zero, i.size, i.bytes)) = some (some (.agg (evC 0 0 0).toArray), 34, 48) := by kernel_rfl
    cases hq : Try.prog.info? 38 with
    | none => rw [hq] at h; cases h
    | some i0 => rw [hq] at h; simp at h; exact ⟨i0, rfl, h.1, h.2.1, h.2.2⟩
  obtain ⟨N, hN⟩ : ∃ N, N = min n.toNat 40 := ⟨_, rfl⟩
  rw [← hN]
  have HNN : Hid (N = min n.toNat 40) := hN
  clear hN
  go_enter Try.func11, Try.ntmps11
  go_wp2
  go_loopw [5, 6] (fun v i wr => ∃ k : Nat, k ≤ N ∧ i = .int .i64 k ∧ wr.ownsRow w.heap.size 38 34 v k ((evs f k).flatMap Ev.cells) ∧ Below w.heap.size w wr) (fun _ i _ => N - (intOf i).toNat)
  case atStart => exact ⟨0, by omega, rfl, World.ownsRow_nil _ _ _ _, Below.refl _ _⟩
  case round =>
    obtain ⟨k, hk, rfl, hown, hnx⟩ := hrel
    have HO : Hid (wr.ownsRow w.heap.size 38 34 _ k ((evs f k).flatMap Ev.cells)) := hown
    have HX : Hid (Below w.heap.size w wr) := hnx
    clear hown hnx
    by_cases hlt : k < N
    · have h1 : (k : Int) < n := by have := HNN.out; omega
      have h2 : (k : Int) < 40 := by have := HNN.out; omega
      have hcell : Hid (evC (1 + (k : Int) % 3) k ((f : Int) + k) = (evAt f k).cells) := by
        show _ = evC (1 + ((k % 3 : Nat) : Int)) (k : Int) ((f + k : Nat) : Int)
        rw [Int.natCast_emod, Int.natCast_add]; rfl
      have hsz : Hid (w.heap.size ≤ wr.heap.size) := HX.out.size
      have hk40 : Hid (k < 40) := by unfold Hid; omega
      go_wp2_with (first
          | (at_builtin; refine wpList_append_own _ rfl _ _ 30 rfl w.heap.size 38 ie (.agg (evC 0 0 0).toArray) 34 48 Try.underlying30 hi hz hs hb rfl (by decide) _ _ _ rfl (HO.out.alloc _) ⟨wr.heap.size, 0, none⟩ 1 1 (evC (1 + (k : Int) % 3) k ((f : Int) + k)) rfl rfl ?c1 ?c2 ?c3 ?c4 ?c5 ?_)
          | fail)
      case c1 =>
        intro j u hj
        rw [Addr.add_mid, Nat.zero_add]
        simp only [World.cell?, heap_alloc_new]
        simpa using hj
      case c2 => intro u hu; exact (List.all_eq_true.1 (show ((evC (1 + (k : Int) % 3) k ((f : Int) + k)).all (·.oneCell')) = true from rfl)) u hu
      case c3 => have := hk40.out; unfold maxLen; omega
      case c4 => have := hk40.out; omega
      case c5 => have := hsz.out; simp; omega
      intro v' w2 hown' hgrow _
      rw [hcell.out] at hown'
      have HO2 : Hid (w2.ownsRow w.heap.size 38 34 v' (k + 1) ((evs f (k + 1)).flatMap Ev.cells)) := by rw [cells_flat]; exact hown'
      have HX2 : Hid (Below w.heap.size w w2) := (HX.out.alloc hsz.out _).grown hgrow (by simp; have := hsz.out; omega) fun j hj => (HO.out.lt j hj).1
      clear hown' hgrow
      go_wp2
      go_roundw
      case rel => exact ⟨k + 1, by omega, by go_num, HO2.out, HX2.out⟩
      case measure => simp [intOf]; omega
    · have hkN : k = N := by omega
      subst hkN
      by_cases h1 : (k : Int) < n
      · have h2 : k = 40 := by have := HNN.out; omega
        subst h2
        have h3 : decide ((40 : Int) < n) = true := by simp; omega
        go_wp2
        go_ret
        exact ⟨_, rfl, HO.out, HX.out⟩
      · have h3 : decide ((k : Int) < n) = false := by simp; omega
        go_wp2
        go_ret
        exact ⟨_, rfl, HO.out, HX.out⟩

theorem Sl.of_owns {w : World} {base e sz : Nat} {v : Value} {n : Nat} {xs : List (List Value)} (h : w.ownsRow base e sz v n xs.flatten) (hx : ∀ x ∈ xs, x.length = sz) (hn : n = xs.length) : Sl w e sz v xs := by
  subst hn
  refine ⟨hx, ?_⟩
  rcases h.2 with ⟨hv, h0⟩ | ⟨g, cap, cur, hv, hb, hg, hnc, hcm, hcs, htake⟩
  · exact .inl ⟨hv, List.length_eq_zero_iff.1 h0⟩
  · exact .inr ⟨g, 0, cap, cur, hv, hg, hnc, hcm, by omega, by rw [List.drop_zero]; exact htake⟩

/-- EVENTS -/
theorem events_any (f : Nat) (n : Int) (w : World) (hf : f < 1000000) :
    Calls Try.prog 11 #[.int .u64 f, .int .i64 n] w fun e w' => ∃ v, e = .returned v ∧ Sl w' 38 34 v ((evs f (min n.toNat 40)).map Ev.cells) ∧ (∀ k, v.ownBlock = some k → w.heap.size ≤ k) ∧ Below w.heap.size w w' :=
  (events_walk f n w hf).mono fun e w' ⟨v, he, hown, hB⟩ => by
    rw [List.flatMap_def] at hown
    exact ⟨v, he, Sl.of_owns hown (fun x hx => by obtain ⟨e, _, rfl⟩ := List.mem_map.1 hx; rfl) (by rw [List.length_map, evs_length]), fun k hk => (hown.lt k hk).1, hB⟩
end Go.Proofs.Ytdljloohgidbfaa
