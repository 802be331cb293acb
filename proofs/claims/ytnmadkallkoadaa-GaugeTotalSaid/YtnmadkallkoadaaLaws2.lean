/-
  The walks of the laws on the order of three measures, and on the least and the greatest one of two.
-/
import Derived.Test.YtnmadkallkoadaaLaws1
namespace Go.Proofs.Ytnmadkallkoadaa
open Go.RowKit Go.GMath
attribute [local go_sem] run25 run40

set_option maxHeartbeats 1000000 in
theorem total_walk (a b c : Nat) (o r y z : Int) (bl bg bq : Bool) (w : World) 
    (c1 : ∀ w, Calls Try.prog 12 #[.float .f64 a, .float .f64 b] w fun e w' => e = .returned (.int .i64 o) ∧ w = w')
    (c2 : ∀ w, Calls Try.prog 12 #[.float .f64 b, .float .f64 a] w fun e w' => e = .returned (.int .i64 r) ∧ w = w')
    (c3 : ∀ w, Calls Try.prog 12 #[.float .f64 b, .float .f64 c] w fun e w' => e = .returned (.int .i64 y) ∧ w = w')
    (c4 : ∀ w, Calls Try.prog 12 #[.float .f64 a, .float .f64 c] w fun e w' => e = .returned (.int .i64 z) ∧ w = w')
    (c5 : ∀ w, Calls Try.prog 12 #[.float .f64 a, .float .f64 a] w fun e w' => e = .returned (.int .i64 0) ∧ w = w')
    (hl : (FloatKind.f64.format.order a b == some .lt) = bl) (hg : (FloatKind.f64.format.order a b == some .gt) = bg) (hq : ((a : Int) == (b : Int)) = bq)
    (k : (o = -1 ∧ r = 1 ∧ y < 0 ∧ z < 0 ∧ bg = false ∧ bq = false) ∨ (o = -1 ∧ r = 1 ∧ ¬ y < 0 ∧ bg = false ∧ bq = false) ∨ (o = 0 ∧ r = 0 ∧ z = y ∧ bl = false ∧ bg = false ∧ bq = true) ∨ (o = 1 ∧ r = -1 ∧ bl = false ∧ bq = false)) :
    Calls Try.prog 6 #[.float .f64 a, .float .f64 b, .float .f64 c] w fun e w' => e = .returned (.bool true) ∧ Grown w w' := by
  have c6 := fun w => alive_any w
  rcases k with ⟨rfl, rfl, h1, h2, rfl, rfl⟩ | ⟨rfl, rfl, h1, rfl, rfl⟩ | ⟨rfl, rfl, rfl, rfl, rfl, rfl⟩ | ⟨rfl, rfl, rfl, rfl⟩
  · cases bl
    all_goals
      go_enter Try.func6, Try.ntmps6
      go_wp2_with fail
      refine (c1 _).mono ?_; rintro e w' ⟨rfl, rfl⟩
      go_wp2_with fail
      refine (c3 _).mono ?_; rintro e w' ⟨rfl, rfl⟩
      go_wp2_with fail
      refine (c4 _).mono ?_; rintro e w' ⟨rfl, rfl⟩
      go_wp2_with fail
      refine (c2 _).mono ?_; rintro e w' ⟨rfl, rfl⟩
      go_wp2_with fail
      refine (c5 _).mono ?_; rintro e w' ⟨rfl, rfl⟩
      go_wp2_with fail
      refine (c6 _).mono ?_; rintro e w1 ⟨rfl, g1⟩
      have G1 : Hid (Grown w w1) := g1
      clear g1
      go_wp2
      go_ret
      exact ⟨rfl, G1.out⟩
  · cases bl
    all_goals
      go_enter Try.func6, Try.ntmps6
      go_wp2_with fail
      refine (c1 _).mono ?_; rintro e w' ⟨rfl, rfl⟩
      go_wp2_with fail
      refine (c3 _).mono ?_; rintro e w' ⟨rfl, rfl⟩
      go_wp2_with fail
      refine (c4 _).mono ?_; rintro e w' ⟨rfl, rfl⟩
      go_wp2_with fail
      refine (c2 _).mono ?_; rintro e w' ⟨rfl, rfl⟩
      go_wp2_with fail
      refine (c5 _).mono ?_; rintro e w' ⟨rfl, rfl⟩
      go_wp2_with fail
      refine (c6 _).mono ?_; rintro e w1 ⟨rfl, g1⟩
      have G1 : Hid (Grown w w1) := g1
      clear g1
      go_wp2
      go_ret
      exact ⟨rfl, G1.out⟩
  · go_enter Try.func6, Try.ntmps6
    go_wp2_with fail
    refine (c1 _).mono ?_; rintro e w' ⟨rfl, rfl⟩
    go_wp2_with fail
    refine (c3 _).mono ?_; rintro e w' ⟨rfl, rfl⟩
    go_wp2_with fail
    refine (c4 _).mono ?_; rintro e w' ⟨rfl, rfl⟩
    go_wp2_with fail
    refine (c2 _).mono ?_; rintro e w' ⟨rfl, rfl⟩
    go_wp2_with fail
    refine (c5 _).mono ?_; rintro e w' ⟨rfl, rfl⟩
    go_wp2_with fail
    refine (c6 _).mono ?_; rintro e w1 ⟨rfl, g1⟩
    have G1 : Hid (Grown w w1) := g1
    clear g1
    go_wp2
    go_ret
    exact ⟨rfl, G1.out⟩
  · cases bg
    all_goals
      go_enter Try.func6, Try.ntmps6
      go_wp2_with fail
      refine (c1 _).mono ?_; rintro e w' ⟨rfl, rfl⟩
      go_wp2_with fail
      refine (c3 _).mono ?_; rintro e w' ⟨rfl, rfl⟩
      go_wp2_with fail
      refine (c4 _).mono ?_; rintro e w' ⟨rfl, rfl⟩
      go_wp2_with fail
      refine (c2 _).mono ?_; rintro e w' ⟨rfl, rfl⟩
      go_wp2_with fail
      refine (c5 _).mono ?_; rintro e w' ⟨rfl, rfl⟩
      go_wp2_with fail
      refine (c6 _).mono ?_; rintro e w1 ⟨rfl, g1⟩
      have G1 : Hid (Grown w w1) := g1
      clear g1
      go_wp2
      go_ret
      exact ⟨rfl, G1.out⟩

theorem total_any (a b c : Nat) (w : World) (ha : U64 a) (hb : U64 b) (hc : U64 c) : Calls Try.prog 6 #[.float .f64 a, .float .f64 b, .float .f64 c] w fun e w' => e = .returned (.bool true) ∧ Grown w w' := by
  refine total_walk a b c (ord a b) (ord b a) (ord b c) (ord a c) _ _ _ w (fun w => order_any a b w ha hb) (fun w => order_any b a w hb ha) (fun w => order_any b c w hb hc) (fun w => order_any a c w ha hc)
    (fun w => by have h := order_any a a w ha ha; rwa [ord_eq (a := a) (b := a) (by omega) (by omega)] at h) rfl rfl rfl ?_
  have e : FloatKind.f64.format.order a b = Ieee.double.order a b := rfl
  rw [e]
  have hlt : Ieee.double.order a b = some .lt → place a < place b := lt_order ha hb
  have hgt : Ieee.double.order a b = some .gt → place b < place a := gt_order ha hb
  rcases Nat.lt_trichotomy (place a) (place b) with h | h | h
  · have hne : a ≠ b := fun e => by subst e; omega
    have e1 : (Ieee.double.order a b == some .gt) = false := by
      simp only [beq_eq_false_iff_ne]; intro e; have := hgt e; omega
    have e2 : ((a : Int) == (b : Int)) = false := by simp; omega
    rcases Nat.lt_or_ge (place b) (place c) with h' | h'
    · left
      exact ⟨ord_lt h, ord_gt h, by rw [ord_lt h']; omega, by rw [ord_lt (by omega)]; omega, e1, e2⟩
    · right; left
      refine ⟨ord_lt h, ord_gt h, ?_, e1, e2⟩
      unfold ord; rw [if_neg (by omega)]; split <;> omega
  · have hne : a = b := place_inj ha hb h
    subst hne
    right; right; left
    refine ⟨ord_eq (by omega) (by omega), ord_eq (by omega) (by omega), rfl, ?_, ?_, by simp⟩
    · simp only [beq_eq_false_iff_ne]; intro e; have := hlt e; omega
    · simp only [beq_eq_false_iff_ne]; intro e; have := hgt e; omega
  · have hne : a ≠ b := fun e => by subst e; omega
    have e1 : (Ieee.double.order a b == some .lt) = false := by
      simp only [beq_eq_false_iff_ne]; intro e; have := hlt e; omega
    have e2 : ((a : Int) == (b : Int)) = false := by simp; omega
    right; right; right
    exact ⟨ord_gt h, ord_lt h, e1, e2⟩
end Go.Proofs.Ytnmadkallkoadaa
