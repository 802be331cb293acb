/-
  Plain facts on what is pushed and taken.
-/
import Derived.Test.YtdljloohgidbfaaFeedAlive
namespace Go.Proofs.Ytdljloohgidbfaa
open Go Go.RowKit Go.Mem

theorem push_fits (l : List It) (evs : List Ev) (h : l.length + evs.length ≤ 16) : evs.foldl pushI (l, 0) = (l ++ evs.map Ev.it, 0) := by
  induction evs generalizing l with
  | nil => simp
  | cons e r ih =>
    have e1 : pushI (l, 0) e = (l ++ [e.it], 0) := by
      unfold pushI
      rw [if_neg (by simp), if_neg (by simp only [List.length_cons] at h ⊢; omega)]
    rw [List.foldl_cons, e1, ih _ (by simp only [List.length_append, List.length_cons, List.length_nil] at h ⊢; omega)]
    simp
theorem often_state (f m : Nat) (h : m ≤ 16) : (evs f m).foldl pushI ([], 0) = ((evs f m).map Ev.it, 0) := by
  rw [push_fits [] _ (by simp [evs_length]; exact h)]; simp
theorem often_take (f m : Nat) (h : m ≤ 16) : takeI ((evs f m).map Ev.it, 0) 16 = ((evs f m).map Ev.it, ([], 0)) := by
  unfold takeI
  rw [if_neg (by simp), show ((16 : Int).toNat) = 16 from rfl, List.take_of_length_le (by simp [evs_length]; exact h), List.drop_of_length_le (by simp [evs_length]; exact h)]
theorem often_item (f m j : Nat) (h : j < m) : (((evs f m).map Ev.it).map It.cells).getD j [] = itC (1 + ((j % 3 : Nat) : Int)) j ((f + j : Nat) : Int) 0 := by
  simp [evs, List.getD_eq_getElem?_getD, h]
  rfl
end Go.Proofs.Ytdljloohgidbfaa
