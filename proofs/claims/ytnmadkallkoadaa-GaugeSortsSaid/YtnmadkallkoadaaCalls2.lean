/-
  The contracts of the functions of package gauge and of its reference that take and give numbers alone, further.
-/
import Derived.Test.YtnmadkallkoadaaCalls
namespace Go.Proofs.Ytnmadkallkoadaa
open Go.RowKit Go.GMath
attribute [local go_sem] run25 run40

theorem rord_ne {a b : Nat} {ta tb : Bool} (ha : U64 a) (hb : U64 b) (hta : topB a = ta) (htb : topB b = tb) (hne : a ≠ b) :
    ord a b = if ta = tb then (if decide (a < b) = ta then 1 else -1) else (if ta then -1 else 1) := by
  subst hta; subst htb
  have h0 := SW2
  unfold U64 at ha hb
  unfold ord place topB
  by_cases h1 : a < SW <;> by_cases h2 : b < SW
  · have e1 : ¬ SW ≤ a := by omega
    have e2 : ¬ SW ≤ b := by omega
    simp only [h1, h2, e1, e2, if_true, decide_false]
    by_cases h3 : a < b
    · rw [if_pos (by omega)]; simp [h3]
    · rw [if_neg (by omega), if_pos (by omega)]; simp [h3]
  · have e1 : ¬ SW ≤ a := by omega
    have e2 : SW ≤ b := by omega
    simp only [h1, h2, e1, e2, if_true, if_false, decide_true, decide_false]
    rw [if_neg (by omega), if_pos (by omega)]; simp
  · have e1 : SW ≤ a := by omega
    have e2 : ¬ SW ≤ b := by omega
    simp only [h1, h2, e1, e2, if_true, if_false, decide_true, decide_false]
    rw [if_pos (by omega)]; simp
  · have e1 : SW ≤ a := by omega
    have e2 : SW ≤ b := by omega
    simp only [h1, h2, e1, e2, if_true, if_false, decide_true]
    by_cases h3 : a < b
    · rw [if_neg (by omega), if_pos (by omega)]; simp [h3]
    · rw [if_pos (by omega)]; simp [h3]

set_option maxHeartbeats 400000 in
theorem rorder_any (a b : Nat) (w : World) (ha : U64 a) (hb : U64 b) : Calls Try.prog 13 #[.float .f64 a, .float .f64 b] w fun e w' => e = .returned (.int .i64 (ord a b)) ∧ w = w' := by
  have h1 := below_any a w
  have h2 := below_any b w
  by_cases he : a = b
  · subst he
    have e0 : ord a a = 0 := ord_eq (by omega) (by omega)
    rw [e0]
    clear h1 h2 e0
    go_enter Try.func13, Try.ntmps13
    go_wp2
    go_ret
    exact ⟨rfl, rfl⟩
  · have hne : ((a : Int) == (b : Int)) = false := by simp; omega
    cases hta : topB a <;> cases htb : topB b
    all_goals
      rw [rord_ne ha hb hta htb he]
      rw [hta] at h1
      rw [htb] at h2
      clear hta htb he
    all_goals
      go_enter Try.func13, Try.ntmps13
      go_wp2_with (first | (refine h1.mono ?_; rintro e w' ⟨rfl, rfl⟩) | (refine h2.mono ?_; rintro e w' ⟨rfl, rfl⟩))
    all_goals
      go_ret
    all_goals first | exact ⟨rfl, rfl⟩ | (exfalso; first | omega | (simp_all; done) | (simp_all; omega))

set_option maxHeartbeats 400000 in
theorem rsame_any (a b : Nat) (w : World) (ha : U64 a) (hb : U64 b) : Calls Try.prog 17 #[.float .f64 a, .float .f64 b] w fun e w' => e = .returned (.bool (decide (a = b))) ∧ w = w' := by
  have h1 := rorder_any a b w ha hb
  go_enter Try.func17, Try.ntmps17
  go_wp2_with fail
  refine h1.mono ?_
  rintro e w' ⟨rfl, rfl⟩
  clear h1
  go_wp2
  go_ret
  exact ⟨ret_bool (ord_zero ha hb), rfl⟩

def least (a b : Nat) : Nat := if nanB a || nanB b then NONE else if ord a b ≤ 0 then a else b
def greatest (a b : Nat) : Nat := if nanB a || nanB b then NONE else if 0 ≤ ord a b then a else b
def pick (a b : Nat) (ahead : Bool) : Nat := if !numB a || !numB b then NONE else if decide (ord a b < 0) = ahead then a else b

set_option maxHeartbeats 400000 in
theorem least_any (a b : Nat) (w : World) (ha : U64 a) (hb : U64 b) : Calls Try.prog 18 #[.float .f64 a, .float .f64 b] w fun e w' => e = .returned (.float .f64 (least a b)) ∧ w = w' := by
  have h1 := isnan_any a w
  have h2 := isnan_any b w
  have h3 := order_any a b w ha hb
  have h4 := none_any w
  unfold least
  generalize ord a b = o at *
  cases hn : nanB a <;> cases hm : nanB b
  all_goals
    rw [hn] at h1
    rw [hm] at h2
    clear hn hm ha hb
    go_enter Try.func18, Try.ntmps18
    go_wp2_with (first | (refine h1.mono ?_; rintro e w' ⟨rfl, rfl⟩) | (refine h2.mono ?_; rintro e w' ⟨rfl, rfl⟩) | (go_at_call 12; refine h3.mono ?_; rintro e w' ⟨rfl, rfl⟩) | (go_at_call 38; refine h4.mono ?_; rintro e w' ⟨rfl, rfl⟩))
  all_goals
    go_ret
  all_goals exact ⟨rfl, rfl⟩

set_option maxHeartbeats 400000 in
theorem greatest_any (a b : Nat) (w : World) (ha : U64 a) (hb : U64 b) : Calls Try.prog 20 #[.float .f64 a, .float .f64 b] w fun e w' => e = .returned (.float .f64 (greatest a b)) ∧ w = w' := by
  have h1 := isnan_any a w
  have h2 := isnan_any b w
  have h3 := order_any a b w ha hb
  have h4 := none_any w
  unfold greatest
  generalize ord a b = o at *
  cases hn : nanB a <;> cases hm : nanB b
  all_goals
    rw [hn] at h1
    rw [hm] at h2
    clear hn hm ha hb
    go_enter Try.func20, Try.ntmps20
    go_wp2_with (first | (refine h1.mono ?_; rintro e w' ⟨rfl, rfl⟩) | (refine h2.mono ?_; rintro e w' ⟨rfl, rfl⟩) | (go_at_call 12; refine h3.mono ?_; rintro e w' ⟨rfl, rfl⟩) | (go_at_call 38; refine h4.mono ?_; rintro e w' ⟨rfl, rfl⟩))
  all_goals
    go_ret
  all_goals exact ⟨rfl, rfl⟩

set_option maxHeartbeats 400000 in
theorem pick_any (a b : Nat) (c : Bool) (w : World) (ha : U64 a) (hb : U64 b) : Calls Try.prog 19 #[.float .f64 a, .float .f64 b, .bool c] w fun e w' => e = .returned (.float .f64 (pick a b c)) ∧ w = w' := by
  have h1 := number_any a w
  have h2 := number_any b w
  have h3 := rorder_any a b w ha hb
  have h4 := rnone_any w
  unfold pick
  generalize ord a b = o at *
  cases hn : numB a <;> cases hm : numB b <;> cases c
  all_goals
    rw [hn] at h1
    rw [hm] at h2
    clear hn hm ha hb
    go_enter Try.func19, Try.ntmps19
    go_wp2_with (first | (refine h1.mono ?_; rintro e w' ⟨rfl, rfl⟩) | (refine h2.mono ?_; rintro e w' ⟨rfl, rfl⟩) | (go_at_call 13; refine h3.mono ?_; rintro e w' ⟨rfl, rfl⟩) | (go_at_call 26; refine h4.mono ?_; rintro e w' ⟨rfl, rfl⟩))
  all_goals
    go_ret
  all_goals first | exact ⟨rfl, rfl⟩ | (exfalso; first | omega | (simp_all; done) | (simp_all; omega))
end Go.Proofs.Ytnmadkallkoadaa
