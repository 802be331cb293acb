/-
  The contracts at a feed that is nil, or that no call made.
-/
import Derived.Test.YtdljloohgidbfaaSortU
namespace Go.Proofs.Ytdljloohgidbfaa
open Go Go.RowKit Go.Mem

/-- no feed -/
def NoFeed (w : World) (p : Value) : Prop := p = .pointer none ∨ ∃ b, p = .pointer (some ⟨b, 0, none⟩) ∧ w.cell? ⟨b, 0, none⟩ = some (.map none)

theorem NoFeed.keep {w w' : World} {p : Value} (h : NoFeed w p) (c : Chg (fun _ => False) w w') : NoFeed w' p := by
  rcases h with h | ⟨b, rfl, h⟩
  · exact .inl h
  · refine .inr ⟨b, rfl, ?_⟩
    have hb : b < w.heap.size := by
      unfold World.cell? at h
      simp only at h
      split at h
      · rename_i hb; exact (Array.getElem?_eq_some_iff.1 hb).1
      · cases h
    unfold World.cell? at h ⊢
    simp only at h ⊢
    rw [c.block b hb id]; exact h

set_option maxRecDepth 100000 in
theorem made_no {w : World} {p : Value} (h : NoFeed w p) : Calls Try.prog 26 #[p] w fun e w' => e = .returned (.bool false) ∧ w' = w := by
  rcases h with rfl | ⟨b, rfl, hc⟩
  · have hq : ∀ w, (binOp .neq 23 (.pointer none) (.pointer none)).run Try.prog w = .ok (.bool false) w := fun _ => by kernel_rfl
    go_enter Try.func26, Try.ntmps26
    go_wp2
    go_ret
    exact ⟨rfl, rfl⟩
  · have hq : ∀ w, (binOp .neq 68 (.map none) (.map none)).run Try.prog w = .ok (.bool false) w := fun w => run_neq_map_nil w 68 _ _ none Try.underlying68
    go_enter Try.func26, Try.ntmps26
    go_wp2
    go_ret
    exact ⟨rfl, rfl⟩
set_option maxRecDepth 100000 in
theorem push_no {w : World} {p : Value} (h : NoFeed w p) (v : Value) : Calls Try.prog 10 #[p, v] w fun e w' => e = .returned (.tuple #[]) ∧ w' = w := by
  have hm := made_no h
  clear h
  go_enter Try.func10, Try.ntmps10
  go_wp2_with fail
  refine hm.mono ?_
  rintro e w' ⟨rfl, hw⟩
  subst hw
  clear hm
  go_wp2_with fail
  refine bodyPost_ret (results_none rfl _ _ _) rfl ?_
  exact ⟨rfl, rfl⟩
set_option maxRecDepth 100000 in
theorem watch_no {w : World} {p : Value} (h : NoFeed w p) : Calls Try.prog 9 #[p] w fun e w' => e = .returned (.tuple #[.int .u64 0, .int .i64 6]) ∧ w' = w := by
  have hm := made_no h
  clear h
  go_enter Try.func9, Try.ntmps9
  go_wp2_with fail
  refine hm.mono ?_
  rintro e w' ⟨rfl, hw⟩
  subst hw
  clear hm
  go_wp2_with fail
  go_ret2
  exact ⟨rfl, rfl⟩
set_option maxRecDepth 100000 in
theorem take_nil {w : World} {p : Value} (h : NoFeed w p) (x n : Int) : Calls Try.prog 12 #[p, .int .u64 x, .int .i64 n] w fun e w' => e = .returned (.tuple #[.slice none 0 0, .int .i64 6]) ∧ w' = w := by
  have hm := made_no h
  clear h
  go_enter Try.func12, Try.ntmps12
  go_wp2_with fail
  refine hm.mono ?_
  rintro e w' ⟨rfl, hw⟩
  subst hw
  clear hm
  go_wp2_with fail
  go_ret2
  exact ⟨rfl, rfl⟩
set_option maxRecDepth 100000 in
theorem leave_nil {w : World} {p : Value} (h : NoFeed w p) (x : Int) : Calls Try.prog 17 #[p, .int .u64 x] w fun e w' => e = .returned (.bool false) ∧ w' = w := by
  have hm := made_no h
  clear h
  go_enter Try.func17, Try.ntmps17
  go_wp2_with fail
  refine hm.mono ?_
  rintro e w' ⟨rfl, hw⟩
  subst hw
  clear hm
  go_wp2_with fail
  go_ret
  exact ⟨rfl, rfl⟩
set_option maxRecDepth 100000 in
theorem waits_nil {w : World} {p : Value} (h : NoFeed w p) (x : Int) : Calls Try.prog 14 #[p, .int .u64 x] w fun e w' => e = .returned (.int .i64 0) ∧ w' = w := by
  have hm := made_no h
  clear h
  go_enter Try.func14, Try.ntmps14
  go_wp2_with fail
  refine hm.mono ?_
  rintro e w' ⟨rfl, hw⟩
  subst hw
  clear hm
  go_wp2_with fail
  go_ret
  exact ⟨rfl, rfl⟩
set_option maxRecDepth 100000 in
theorem insertion_nil (w : World) : Calls Try.prog 34 #[.slice none 0 0, .int .i64 0, .int .i64 0] w fun e w' => e = .returned (.tuple #[]) ∧ w' = w := by
  go_enter Try.func34, Try.ntmps34
  go_wp2_with fail
  refine wp_loop_once ?_
  go_wp2_with fail
  first
    | refine bodyPost_ret (results_none rfl _ _ _) rfl ⟨rfl, rfl⟩
    | refine bodyPost_end (results_none rfl _ _ _) rfl ⟨rfl, rfl⟩
set_option maxRecDepth 100000 in
theorem pdq_nil (r : Int) (w : World) : Calls Try.prog 32 #[.slice none 0 0, .int .i64 0, .int .i64 0, .int .i64 r] w fun e w' => e = .returned (.tuple #[]) ∧ w' = w := by
  have hi := insertion_nil w
  go_enter Try.func32, Try.ntmps32
  go_wp2_with fail
  refine wp_loop_once ?_
  go_wp2_with fail
  refine hi.mono ?_
  rintro e w2 ⟨rfl, hw⟩
  subst hw
  clear hi
  go_wp2_with fail
  refine bodyPost_ret (results_none rfl _ _ _) rfl ⟨rfl, rfl⟩
set_option maxRecDepth 100000 in
theorem sort_nil (w : World) : Calls Try.prog 31 #[.slice none 0 0] w fun e w' => e = .returned (.tuple #[]) ∧ w' = w := by
  have hl := len_any 0 w (by omega)
  have hp := fun r => pdq_nil r w
  go_enter Try.func31, Try.ntmps31
  go_wp2_with fail
  refine hl.mono ?_
  rintro e w' ⟨⟨r, rfl⟩, hw⟩
  subst hw
  clear hl
  go_wp2_with fail
  refine (hp r).mono ?_
  rintro e w2 ⟨rfl, hw⟩
  subst hw
  clear hp
  go_wp2_with fail
  go_end0
  exact ⟨rfl, rfl⟩
set_option maxRecDepth 100000 in
theorem watchers_no {w : World} {p : Value} (h : NoFeed w p) : Calls Try.prog 24 #[p] w fun e w' => e = .returned (.slice none 0 0) ∧ w' = w := by
  have hm := made_no h
  have hs := sort_nil w
  clear h
  go_enter Try.func24, Try.ntmps24
  go_wp2_with fail
  refine hm.mono ?_
  rintro e w' ⟨rfl, hw⟩
  subst hw
  clear hm
  go_wp2_with fail
  refine hs.mono ?_
  rintro e w2 ⟨rfl, hw⟩
  subst hw
  clear hs
  go_wp2_with fail
  go_ret
  exact ⟨rfl, rfl⟩
end Go.Proofs.Ytdljloohgidbfaa
