/-
  The contract of alive, of the laws: it returns true.
-/
import Derived.Test.YtdljloohgidbfaaFeedSame
namespace Go.Proofs.Ytdljloohgidbfaa
open Go Go.RowKit Go.Mem

def aliveItems : List It := (takeI ((evs 1 18).foldl pushI ([], 0)) 99).1
theorem alive_len : aliveItems.length = 17 := by decide +kernel
theorem alive16 : (aliveItems.map It.cells).getD 16 [] = (gap 2).cells := by kernel_rfl
theorem alive0 : (aliveItems.map It.cells).getD 0 [] = itC 1 0 1 0 := by kernel_rfl

set_option maxRecDepth 100000 in
set_option maxHeartbeats 4000000 in
theorem alive_any (w : World) : Calls Try.prog 13 #[] w fun e w' => e = .returned (.bool true) ∧ Chg (fun _ => False) w w' := by
  go_enter Try.func13, Try.ntmps13
  go_wp2_with fail
  refine (new_any _).mono ?_
  rintro e w1 ⟨p, S, rfl, hF, hS, hc⟩
  have HC1 : Hid (Chg (fun _ => False) w w1) := hc
  have HS1 : Hid (∀ k, S k → w.heap.size ≤ k) := hS
  clear hc hS
  have HF1 : Hid (IsFeed w1 p (0, []) S) := hF
  clear hF
  go_wp2_with fail
  refine (watch_is HF1.out (by simp) (by simp)).mono ?_
  rintro e w2 ⟨rfl, S2, hF, hS, hc⟩
  have HC2 : Hid (Chg (fun _ => False) w w2) := HC1.out.trans (hc.mono fun k _ h => .inr (HS1.out k h))
  have HS2 : Hid (∀ k, S2 k → w.heap.size ≤ k) := fun k hk => by rcases hS k hk with h | h; exact HS1.out k h; exact Nat.le_trans HC1.out.size h
  have HF2 : Hid (IsFeed w2 p (1, [(1, [], 0)]) S2) := hF
  clear hF hS hc HF1 HC1 HS1
  go_wp2_with fail
  refine (events_is 1 18 _ (by decide)).mono ?_
  rintro e w3 ⟨v, rfl, hsl, hnew, hb⟩
  have HC3 : Hid (Chg (fun _ => False) w w3) := HC2.out.trans ((Chg.of_below hb).mono fun k _ h => .inr (Nat.le_trans HC2.out.size h))
  have HF3 : Hid (IsFeed w3 p (1, [(1, [], 0)]) S2) := HF2.out.keep (Chg.of_below hb) fun k hk h => by have := HF2.out.lt hk; omega
  have HSL : Hid (Sl w3 38 34 v ((evs 1 18).map Ev.cells)) := hsl
  clear hsl hnew hb HF2 HC2
  go_wp2_with fail
  refine (push_is HF3.out v (evs 1 18) HSL.out (by decide) (by intro a ha; simp at ha; subst ha; decide)).mono ?_
  rintro e w4 ⟨rfl, S4, hF, hS, hc⟩
  have HC4 : Hid (Chg (fun _ => False) w w4) := HC3.out.trans (hc.mono fun k _ h => .inr (HS2.out k h))
  have HS4 : Hid (∀ k, S4 k → w.heap.size ≤ k) := fun k hk => by rcases hS k hk with h | h; exact HS2.out k h; exact Nat.le_trans HC3.out.size h
  have HF4 : Hid (IsFeed w4 p (1, [(1, (evs 1 18).foldl pushI ([], 0))]) S4) := hF
  clear hF hS hc HF3 HC3 HS2 HSL
  go_wp2_with fail
  refine (take_is HF4.out (1, (evs 1 18).foldl pushI ([], 0)) (by simp) 99).mono ?_
  rintro e w5 ⟨v5, rfl, hsl, hnew, S5, hF, hS, hc⟩
  have HC5 : Hid (Chg (fun _ => False) w w5) := HC4.out.trans (hc.mono fun k _ h => .inr (HS4.out k h))
  have HF5 : Hid (IsFeed w5 p (1, [takeA 1 99 (1, (evs 1 18).foldl pushI ([], 0))]) S5) := hF
  have hsl : Sl w5 40 35 v5 (aliveItems.map It.cells) := hsl
  obtain ⟨a5, c5, hv5, _⟩ := Sl.shape2 hsl
  rw [List.length_map, alive_len] at hv5
  subst hv5
  have hg0 := hsl.at (i := 0) (x := itC 1 0 1 0) (by rw [getD_at (by rw [List.length_map, alive_len]; decide), alive0])
  obtain ⟨g5, o5, _, he5, hr0⟩ := hg0
  have ea : a5 = some ⟨g5, o5, none⟩ := (Value.slice.inj he5).1
  subst ea
  have hr16 := fun j u hu => hsl.el (i := 16) (by rw [List.length_map, alive_len]; decide) (j := j) (u := u) (by rw [alive16]; exact hu)
  have h16 : w5.cell? ⟨g5, o5 + 16 * 35 + 34, none⟩ = some (.int .u64 2) := hr16 34 _ rfl
  have h0 : w5.cell? ⟨g5, o5 + 0 * 35 + 33, none⟩ = some (.int .u64 1) := hr0 33 _ rfl
  simp only [Nat.zero_mul, Nat.add_zero, Nat.reduceMul] at h16 h0
  clear hF hS hc HF4 HC4 HS4 hsl hnew he5 hr0 hr16
  go_wp2_with fail
  refine (take_no HF5.out 9 (by decide) (by intro a ha; simp at ha; subst ha; decide) 1).mono ?_
  rintro e w6 ⟨rfl, rfl⟩
  clear HF5
  go_wp2_with fail
  go_ret
  exact ⟨rfl, HC5.out⟩
end Go.Proofs.Ytdljloohgidbfaa
