/-
  The walk of FeedNobody.
-/
import Derived.Test.YtdljloohgidbfaaFeedNil
namespace Go.Proofs.Ytdljloohgidbfaa
open Go Go.RowKit Go.Mem

set_option maxRecDepth 100000 in
set_option maxHeartbeats 4000000 in
theorem nobody_walk (kind id n : Int) (w : World) :
    Calls Try.prog 7 #[.agg #[.int .i64 kind, .int .u64 id, .int .i64 n]] w fun e w' => e = .returned (.bool true) ∧ Chg (fun _ => False) w w' := by
  obtain ⟨B0, hB0⟩ : ∃ B0, B0 = w.alloc (.cells #[.int .i64 kind, .int .u64 id, .int .i64 n] 45) := ⟨_, rfl⟩
  obtain ⟨B1, hB1⟩ : ∃ B1, B1 = B0.alloc (.cells #[.map none, .int .u64 0] 70) := ⟨_, rfl⟩
  have hs0 : B0.heap.size = w.heap.size + 1 := by rw [hB0]; simp
  have HC1 : Hid (Chg (fun _ => False) w B1) := by unfold Hid; rw [hB1, hB0]; exact ((Chg.refl _ w).alloc _).alloc _
  have HO : Hid (B1.heap[w.heap.size]? = some (.cells #[.int .i64 kind, .int .u64 id, .int .i64 n] 45)) := by
    unfold Hid
    rw [hB1, Below.heap_alloc _ _ _ (by omega), hB0]; exact heap_alloc_new w _
  have HU : Hid (NoFeed B1 (.pointer (some ⟨w.heap.size + 1, 0, none⟩))) := by
    refine .inr ⟨_, rfl, ?_⟩
    have : B1.heap[w.heap.size + 1]? = some (.cells #[.map none, .int .u64 0] 70) := by rw [hB1, ← hs0]; exact heap_alloc_new _ _
    simp [World.cell?, this]
  have HB1 : Hid (B1 = (w.alloc (.cells #[.int .i64 kind, .int .u64 id, .int .i64 n] 45)).alloc (.cells #[.map none, .int .u64 0] 70)) := by unfold Hid; rw [hB1, hB0]
  clear hB0 hB1 hs0
  go_enter Try.func7, Try.ntmps7
  go_wp2_with fail
  rw [← HB1.out]
  refine (events_is 1 3 _ (by decide)).mono ?_
  rintro e w1 ⟨v, rfl, _, _, hb⟩
  have HC2 : Hid (Chg (fun _ => False) B1 w1) := (Chg.of_below hb).mono fun k h1 h2 => by omega
  clear hb HB1
  go_wp2_with fail
  refine (push_no (.inl rfl) v).mono ?_
  rintro e w1' ⟨rfl, hw⟩
  subst hw
  go_wp2_with fail
  refine (events_is 1 3 _ (by decide)).mono ?_
  rintro e w2 ⟨v2, rfl, _, _, hb⟩
  have HC3 : Hid (Chg (fun _ => False) B1 w2) := HC2.out.trans ((Chg.of_below hb).mono fun k h1 h2 => by omega)
  clear hb HC2
  go_wp2_with fail
  refine (push_no (HU.out.keep HC3.out) v2).mono ?_
  rintro e w2' ⟨rfl, hw⟩
  subst hw
  go_wp2_with fail
  refine (watch_no (.inl rfl)).mono ?_
  rintro e w2' ⟨rfl, hw⟩
  subst hw
  go_wp2_with fail
  refine (watch_no (HU.out.keep HC3.out)).mono ?_
  rintro e w2' ⟨rfl, hw⟩
  subst hw
  have ho := HC3.out.at HO.out (fun h => h)
  have hc1 : w2'.cell? ⟨w.heap.size, 1, none⟩ = some (.int .u64 id) := by simp [World.cell?, ho]
  have hc2 : w2'.cell? ⟨w.heap.size, 2, none⟩ = some (.int .i64 n) := by simp [World.cell?, ho]
  clear ho
  go_wp2_with fail
  refine (take_nil (.inl rfl) id n).mono ?_
  rintro e w3 ⟨rfl, hw⟩
  subst hw
  go_wp2_with fail
  refine (take_nil (HU.out.keep HC3.out) id n).mono ?_
  rintro e w3 ⟨rfl, hw⟩
  subst hw
  clear hc1 hc2
  go_wp2_with fail
  obtain ⟨X, hX⟩ : ∃ X, X = w3 := ⟨_, rfl⟩
  rw [← hX] at HC3 ⊢
  clear hX
  have hid : ∀ W, Chg (fun _ => False) X W → (Instr.loadAt 25 (.pointer (some ⟨w.heap.size, 1, none⟩))).run Try.prog W = .ok (.int .u64 id) W := fun W hR =>
    Ex.load1 Try.underlying25 rfl (by have := hR.at (HC3.out.at HO.out (fun h => h)) (fun h => h); simp [World.cell?, this])
  have hnu : ∀ W, Chg (fun _ => False) X W → NoFeed W (.pointer (some ⟨w.heap.size + 1, 0, none⟩)) := fun W hR => (HU.out.keep HC3.out).keep hR
  refine Go.Drawn.wp_region_rel [[], [0], [0, 1], [0, 1, 2], [0, 1, 2, 3], [0, 1, 2, 3, 4], [0, 1, 2, 3, 4, 5], [0, 1, 2, 3, 4, 5, 6], [0, 1, 2, 3, 4, 5, 6, 7], [0, 1, 2, 3, 4, 5, 6, 7, 8], [0, 1, 2, 3, 4, 5, 6, 7, 8, 9], [0, 1, 2, 3, 4, 5, 6, 7, 8, 9, 10], [0, 1, 2, 3, 4, 5, 6, 7, 8, 9, 10, 11], [0, 1, 2, 3, 4, 5, 6, 7, 8, 9, 10, 11, 12], [0, 1, 2, 3, 4, 5, 6, 7, 8, 9, 10, 11, 12, 13], [0, 1, 2, 3, 4, 5, 6, 7, 8, 9, 10, 11, 12, 13, 14], [0, 1, 2, 3, 4, 5, 6, 7, 8, 9, 10, 11, 12, 13, 14, 15], [0, 1, 2, 3, 4, 5, 6, 7, 8, 9, 10, 11, 12, 13, 14, 15, 16], [0, 1, 2, 3, 4, 5, 6, 7, 8, 9, 10, 11, 12, 13, 14, 15, 16, 17], [0, 1, 2, 3, 4, 5, 6, 7, 8, 9, 10, 11, 12, 13, 14, 15, 16, 17], [0, 1, 2, 3, 4, 5, 6, 7, 8, 9, 10, 11, 12, 13, 14, 15, 16, 17, 19], [0, 1, 2, 3, 4, 5, 6, 7, 8, 9, 10, 11, 12, 13, 14, 15, 16, 17, 18, 19, 20], [0, 1, 2, 3, 4, 5, 6, 7, 8, 9, 10, 11, 12, 13, 14, 15, 16, 17, 18, 19, 20, 21], [0, 1, 2, 3, 4, 5, 6, 7, 8, 9, 10, 11, 12, 13, 14, 15, 16, 17, 18, 19, 20, 21, 22], [0, 1, 2, 3, 4, 5, 6, 7, 8, 9, 10, 11, 12, 13, 14, 15, 16, 17, 18, 19, 20, 21, 22, 23], [0, 1, 2, 3, 4, 5, 6, 7, 8, 9, 10, 11, 12, 13, 14, 15, 16, 17, 18, 19, 20, 21, 22, 23, 24], [0, 1, 2, 3, 4, 5, 6, 7, 8, 9, 10, 11, 12, 13, 14, 15, 16, 17, 18, 19, 20, 21, 22, 23, 24, 25], [0, 1, 2, 3, 4, 5, 6, 7, 8, 9, 10, 11, 12, 13, 14, 15, 16, 17, 18, 19, 20, 21, 22, 23, 24, 25, 26], [0, 1, 2, 3, 4, 5, 6, 7, 8, 9, 10, 11, 12, 13, 14, 15, 16, 17, 18, 19, 20, 21, 22, 23, 24, 25, 26, 27], [0, 1, 2, 3, 4, 5, 6, 7, 8, 9, 10, 11, 12, 13, 14, 15, 16, 17, 18, 19, 20, 21, 22, 23, 24, 25, 26, 27, 28], [0, 1, 2, 3, 4, 5, 6, 7, 8, 9, 10, 11, 12, 13, 14, 15, 16, 17, 18, 19, 20, 21, 22, 23, 24, 25, 26, 27, 28, 29], [0, 1, 2, 3, 4, 5, 6, 7, 8, 9, 10, 11, 12, 13, 14, 15, 16, 17, 18, 19, 20, 21, 22, 23, 24, 25, 26, 27, 28, 29, 30], [0, 1, 2, 3, 4, 5, 6, 7, 8, 9, 10, 11, 12, 13, 14, 15, 16, 17, 18, 19, 20, 21, 22, 23, 24, 25, 26, 27, 28, 29, 30], [0, 1, 2, 3, 4, 5, 6, 7, 8, 9, 10, 11, 12, 13, 14, 15, 16, 17, 18, 19, 20, 21, 22, 23, 24, 25, 26, 27, 28, 29, 30, 32], [0, 1, 2, 3, 4, 5, 6, 7, 8, 9, 10, 11, 12, 13, 14, 15, 16, 17, 18, 19, 20, 21, 22, 23, 24, 25, 26, 27, 28, 29, 30, 31, 32, 33], [0, 1, 2, 3, 4, 5, 6, 7, 8, 9, 10, 11, 12, 13, 14, 15, 16, 17, 18, 19, 20, 21, 22, 23, 24, 25, 26, 27, 28, 29, 30], [0, 1, 2, 3, 4, 5, 6, 7, 8, 9, 10, 11, 12, 13, 14, 15, 16, 17, 18, 19, 20, 21, 22, 23, 24, 25, 26, 27, 28, 29, 30, 35], [0, 1, 2, 3, 4, 5, 6, 7, 8, 9, 10, 11, 12, 13, 14, 15, 16, 17, 18, 19, 20, 21, 22, 23, 24, 25, 26, 27, 28, 29, 30, 31, 32, 33, 34, 35, 36], [0, 1, 2, 3, 4, 5, 6, 7, 8, 9, 10, 11, 12, 13, 14, 15, 16, 17, 18, 19, 20, 21, 22, 23, 24, 25, 26, 27, 28, 29, 30, 31, 32, 33, 34, 35, 36, 37], [0, 1, 2, 3, 4, 5, 6, 7, 8, 9, 10, 11, 12, 13, 14, 15, 16, 17, 18, 19, 20, 21, 22, 23, 24, 25, 26, 27, 28, 29, 30], [0, 1, 2, 3, 4, 5, 6, 7, 8, 9, 10, 11, 12, 13, 14, 15, 16, 17, 18, 19, 20, 21, 22, 23, 24, 25, 26, 27, 28, 29, 30, 31, 32, 33, 34, 35, 36, 37, 39], [0, 1, 2, 3, 4, 5, 6, 7, 8, 9, 10, 11, 12, 13, 14, 15, 16, 17, 18, 19, 20, 21, 22, 23, 24, 25, 26, 27, 28, 29, 30, 31, 32, 33, 34, 35, 36, 37, 39, 40], [0, 1, 2, 3, 4, 5, 6, 7, 8, 9, 10, 11, 12, 13, 14, 15, 16, 17, 18, 19, 20, 21, 22, 23, 24, 25, 26, 27, 28, 29, 30, 31, 32, 33, 34, 35, 36, 37, 38, 39, 40, 41], [0, 1, 2, 3, 4, 5, 6, 7, 8, 9, 10, 11, 12, 13, 14, 15, 16, 17, 18, 19, 20, 21, 22, 23, 24, 25, 26, 27, 28, 29, 30, 31, 32, 33, 34, 35, 36, 37, 39, 40], [0, 1, 2, 3, 4, 5, 6, 7, 8, 9, 10, 11, 12, 13, 14, 15, 16, 17, 18, 19, 20, 21, 22, 23, 24, 25, 26, 27, 28, 29, 30, 31, 32, 33, 34, 35, 36, 37, 39, 40, 43], [0, 1, 2, 3, 4, 5, 6, 7, 8, 9, 10, 11, 12, 13, 14, 15, 16, 17, 18, 19, 20, 21, 22, 23, 24, 25, 26, 27, 28, 29, 30, 31, 32, 33, 34, 35, 36, 37, 38, 39, 40, 41, 42, 43, 44], [0, 1, 2, 3, 4, 5, 6, 7, 8, 9, 10, 11, 12, 13, 14, 15, 16, 17, 18, 19, 20, 21, 22, 23, 24, 25, 26, 27, 28, 29, 30, 31, 32, 33, 34, 35, 36, 37, 38, 39, 40, 41, 42, 43, 44, 45], [0, 1, 2, 3, 4, 5, 6, 7, 8, 9, 10, 11, 12, 13, 14, 15, 16, 17, 18, 19, 20, 21, 22, 23, 24, 25, 26, 27, 28, 29, 30, 31, 32, 33, 34, 35, 36, 37, 38, 39, 40, 41, 42, 43, 44, 45, 46], [0, 1, 2, 3, 4, 5, 6, 7, 8, 9, 10, 11, 12, 13, 14, 15, 16, 17, 18, 19, 20, 21, 22, 23, 24, 25, 26, 27, 28, 29, 30, 31, 32, 33, 34, 35, 36, 37, 38, 39, 40, 41, 42, 43, 44, 45, 46, 47]] [.bool true, .bool true, .int .i64 6, .bool true, .bool true, .bool true, .int .i64 6, .bool true, .bool true, .bool true, .int .i64 6, .bool true, .bool true, .bool true, .int .i64 6, .bool true, .bool true, .bool true, .pointer none, .pointer (some ⟨w.heap.size, 1, none⟩), .int .u64 id, .bool false, .bool true, .bool true, .bool true, .pointer (some ⟨w.heap.size, 1, none⟩), .int .u64 id, .bool false, .bool true, .bool true, .bool true, .pointer none, .pointer (some ⟨w.heap.size, 1, none⟩), .int .u64 id, .int .i64 0, .pointer (some ⟨w.heap.size, 1, none⟩), .int .u64 id, .int .i64 0, .int .i64 0, .pointer none, .slice none 0 0, .int .i64 0, .int .i64 0, .slice none 0 0, .int .i64 0, .int .i64 0, .bool true, .bool true, .bool true] (fun k W => if k = 0 then W = X.drew else Chg (fun _ => False) X W) [0] [[0], [1], [1], [1], [1], [1], [1], [1], [1], [1], [1], [1], [1], [1], [1], [1], [1], [1], [1], [1], [1], [1], [1], [1], [1], [1], [1], [1], [1], [1], [1], [1], [1], [1], [1], [1], [1], [1], [1], [1], [1], [1], [1], [1], [1], [1], [1], [1], [1]] (by kernel_rfl) (by kernel_rfl) (by kernel_rfl) (by kernel_rfl) (by kernel_rfl) (by kernel_rfl) ?_ ?_ ?_
  · exact rfl
  · exact ⟨⟨(.call (by kernel_rfl) (fun _ => by kernel_rfl) (fun W hR => (alive_any W).mono fun e w2 ⟨h1, h2⟩ => ⟨h1, by have hR : W = X.drew := hR; rw [hR] at h2; exact (Chg.refl _ X).drew.trans (h2.mono fun _ _ h => h.elim)⟩)), trivial⟩,
      ⟨(.pure (by kernel_rfl) (fun _ => by kernel_rfl)), trivial⟩,
      ⟨(.pure (by kernel_rfl) (fun _ => by kernel_rfl)), trivial⟩,
      ⟨(.pure (by kernel_rfl) (fun _ => by kernel_rfl)), trivial⟩,
      ⟨(.pure (by kernel_rfl) (fun _ => by kernel_rfl)), trivial⟩,
      ⟨(.pure (by kernel_rfl) (fun _ => by kernel_rfl)), trivial⟩,
      ⟨(.pure (by kernel_rfl) (fun _ => by kernel_rfl)), trivial⟩,
      ⟨(.pure (by kernel_rfl) (fun _ => by kernel_rfl)), trivial⟩,
      ⟨(.pure (by kernel_rfl) (fun _ => by kernel_rfl)), trivial⟩,
      ⟨(.pure (by kernel_rfl) (fun _ => by kernel_rfl)), trivial⟩,
      ⟨(.pure (by kernel_rfl) (fun _ => by kernel_rfl)), trivial⟩,
      ⟨(.pure (by kernel_rfl) (fun _ => by kernel_rfl)), trivial⟩,
      ⟨(.pure (by kernel_rfl) (fun _ => by kernel_rfl)), trivial⟩,
      ⟨(.pure (by kernel_rfl) (fun _ => by kernel_rfl)), trivial⟩,
      ⟨(.pure (by kernel_rfl) (fun _ => by kernel_rfl)), trivial⟩,
      ⟨(.pure (by kernel_rfl) (fun _ => by kernel_rfl)), trivial⟩,
      ⟨(.pure (by kernel_rfl) (fun _ => by kernel_rfl)), trivial⟩,
      ⟨(.pure (by kernel_rfl) (fun _ => by kernel_rfl)), trivial⟩,
      ⟨(.pure (by kernel_rfl) (fun _ => by kernel_rfl)), trivial⟩,
      ⟨(.pure (by kernel_rfl) (fun _ => by kernel_rfl)), trivial⟩,
      ⟨(.val (by kernel_rfl) (fun W hR => Ex.load rfl (hid W hR))), trivial⟩,
      ⟨(.call (by kernel_rfl) (fun _ => by kernel_rfl) (fun W hR => (leave_nil (.inl rfl) id).mono fun e w2 ⟨h1, h2⟩ => ⟨h1, by rw [h2]; exact hR⟩)), trivial⟩,
      ⟨(.pure (by kernel_rfl) (fun _ => by kernel_rfl)), trivial⟩,
      ⟨(.pure (by kernel_rfl) (fun _ => by kernel_rfl)), trivial⟩,
      ⟨(.pure (by kernel_rfl) (fun _ => by kernel_rfl)), trivial⟩,
      ⟨(.pure (by kernel_rfl) (fun _ => by kernel_rfl)), trivial⟩,
      ⟨(.val (by kernel_rfl) (fun W hR => Ex.load rfl (hid W hR))), trivial⟩,
      ⟨(.call (by kernel_rfl) (fun _ => by kernel_rfl) (fun W hR => (leave_nil (hnu W hR) id).mono fun e w2 ⟨h1, h2⟩ => ⟨h1, by rw [h2]; exact hR⟩)), trivial⟩,
      ⟨(.pure (by kernel_rfl) (fun _ => by kernel_rfl)), trivial⟩,
      ⟨(.pure (by kernel_rfl) (fun _ => by kernel_rfl)), trivial⟩,
      ⟨(.pure (by kernel_rfl) (fun _ => by kernel_rfl)), trivial⟩,
      ⟨(.pure (by kernel_rfl) (fun _ => by kernel_rfl)), trivial⟩,
      ⟨(.pure (by kernel_rfl) (fun _ => by kernel_rfl)), trivial⟩,
      ⟨(.val (by kernel_rfl) (fun W hR => Ex.load rfl (hid W hR))), trivial⟩,
      ⟨(.call (by kernel_rfl) (fun _ => by kernel_rfl) (fun W hR => (waits_nil (.inl rfl) id).mono fun e w2 ⟨h1, h2⟩ => ⟨h1, by rw [h2]; exact hR⟩)), trivial⟩,
      ⟨(.pure (by kernel_rfl) (fun _ => by kernel_rfl)), trivial⟩,
      ⟨(.val (by kernel_rfl) (fun W hR => Ex.load rfl (hid W hR))), trivial⟩,
      ⟨(.call (by kernel_rfl) (fun _ => by kernel_rfl) (fun W hR => (waits_nil (hnu W hR) id).mono fun e w2 ⟨h1, h2⟩ => ⟨h1, by rw [h2]; exact hR⟩)), trivial⟩,
      ⟨(.pure (by kernel_rfl) (fun _ => by kernel_rfl)), trivial⟩,
      ⟨(.pure (by kernel_rfl) (fun _ => by kernel_rfl)), trivial⟩,
      ⟨(.call (by kernel_rfl) (fun _ => by kernel_rfl) (fun W hR => (watchers_no (.inl rfl)).mono fun e w2 ⟨h1, h2⟩ => ⟨h1, by rw [h2]; exact hR⟩)), trivial⟩,
      ⟨(.pure (by kernel_rfl) (fun _ => by kernel_rfl)), trivial⟩,
      ⟨(.pure (by kernel_rfl) (fun _ => by kernel_rfl)), trivial⟩,
      ⟨(.call (by kernel_rfl) (fun _ => by kernel_rfl) (fun W hR => (watchers_no (hnu W hR)).mono fun e w2 ⟨h1, h2⟩ => ⟨h1, by rw [h2]; exact hR⟩)), trivial⟩,
      ⟨(.pure (by kernel_rfl) (fun _ => by kernel_rfl)), trivial⟩,
      ⟨(.pure (by kernel_rfl) (fun _ => by kernel_rfl)), trivial⟩,
      ⟨(.pure (by kernel_rfl) (fun _ => by kernel_rfl)), trivial⟩,
      ⟨(.pure (by kernel_rfl) (fun _ => by kernel_rfl)), trivial⟩,
      ⟨(.pure (by kernel_rfl) (fun _ => by kernel_rfl)), trivial⟩,
      trivial⟩
  intro wq hRq
  simp only [Go.Drawn.putAll, Act.put, List.getD_cons_zero, List.getD_cons_succ, List.setIfInBounds_toArray, List.set_cons_zero, List.set_cons_succ]
  have HR : Hid (Chg (fun _ => False) X wq) := hRq
  clear hRq hid hnu
  go_wp2_with fail
  go_ret
  exact ⟨rfl, HC1.out.trans ((HC3.out.trans (HR.out.mono fun _ _ h => h.elim)).mono fun _ _ h => h.elim)⟩
end Go.Proofs.Ytdljloohgidbfaa
