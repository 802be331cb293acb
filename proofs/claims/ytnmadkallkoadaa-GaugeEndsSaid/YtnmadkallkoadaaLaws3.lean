/-
  The walk of the law on the least and the greatest one of two measures.
-/
import Derived.Test.YtnmadkallkoadaaLaws1
namespace Go.Proofs.Ytnmadkallkoadaa
open Go.RowKit Go.GMath
attribute [local go_sem] run25 run40

set_option maxHeartbeats 1000000 in
theorem picks_nan (a b : Nat) (na nb : Bool) (w : World) (hna : (FloatKind.f64.format.order a a != some .eq) = na) (hnb : (FloatKind.f64.format.order b b != some .eq) = nb) (h : (na || nb) = true)
    (c1 : ∀ w, Calls Try.prog 18 #[.float .f64 a, .float .f64 b] w fun e w' => e = .returned (.float .f64 NONE) ∧ w = w')
    (c2 : ∀ w, Calls Try.prog 20 #[.float .f64 a, .float .f64 b] w fun e w' => e = .returned (.float .f64 NONE) ∧ w = w') :
    Calls Try.prog 8 #[.float .f64 a, .float .f64 b] w fun e w' => e = .returned (.bool true) ∧ Fresh w w' := by
  have c3 := fun w => alive_any w
  have c4 := fun w => rnone_any w
  have c5 := fun w => rsame_any NONE NONE w none_U64 none_U64
  simp only [decide_true] at c5
  cases na
  · cases nb
    · cases h
    · clear h
      go_enter Try.func8, Try.ntmps8
      go_wp2_with fail
      refine (c1 _).mono ?_; rintro e w' ⟨rfl, rfl⟩
      go_wp2_with fail
      refine (c2 _).mono ?_; rintro e w' ⟨rfl, rfl⟩
      go_wp2_with fail
      refine (c3 _).mono ?_; rintro e w1 ⟨rfl, g1⟩
      have G1 : Hid (Fresh w w1) := g1
      clear g1
      go_wp2_with fail
      refine (c4 _).mono ?_; rintro e w' ⟨rfl, rfl⟩
      go_wp2_with fail
      refine (c5 _).mono ?_; rintro e w' ⟨rfl, rfl⟩
      go_wp2_with fail
      refine (c4 _).mono ?_; rintro e w' ⟨rfl, rfl⟩
      go_wp2_with fail
      refine (c5 _).mono ?_; rintro e w' ⟨rfl, rfl⟩
      go_wp2
      go_ret
      exact ⟨rfl, G1.out⟩
  · clear h
    go_enter Try.func8, Try.ntmps8
    go_wp2_with fail
    refine (c1 _).mono ?_; rintro e w' ⟨rfl, rfl⟩
    go_wp2_with fail
    refine (c2 _).mono ?_; rintro e w' ⟨rfl, rfl⟩
    go_wp2_with fail
    refine (c3 _).mono ?_; rintro e w1 ⟨rfl, g1⟩
    have G1 : Hid (Fresh w w1) := g1
    clear g1
    go_wp2_with fail
    refine (c4 _).mono ?_; rintro e w' ⟨rfl, rfl⟩
    go_wp2_with fail
    refine (c5 _).mono ?_; rintro e w' ⟨rfl, rfl⟩
    go_wp2_with fail
    refine (c4 _).mono ?_; rintro e w' ⟨rfl, rfl⟩
    go_wp2_with fail
    refine (c5 _).mono ?_; rintro e w' ⟨rfl, rfl⟩
    go_wp2
    go_ret
    exact ⟨rfl, G1.out⟩

set_option maxHeartbeats 1000000 in
theorem picks_first (a b : Nat) (o : Int) (w : World) (hna : (FloatKind.f64.format.order a a != some .eq) = false) (hnb : (FloatKind.f64.format.order b b != some .eq) = false) (ho : o ≤ 0)
    (c1 : ∀ w, Calls Try.prog 18 #[.float .f64 a, .float .f64 b] w fun e w' => e = .returned (.float .f64 a) ∧ w = w')
    (c2 : ∀ w, Calls Try.prog 20 #[.float .f64 a, .float .f64 b] w fun e w' => e = .returned (.float .f64 b) ∧ w = w')
    (c3 : ∀ w, Calls Try.prog 14 #[.float .f64 a, .float .f64 a] w fun e w' => e = .returned (.bool true) ∧ w = w')
    (c4 : ∀ w, Calls Try.prog 14 #[.float .f64 b, .float .f64 b] w fun e w' => e = .returned (.bool true) ∧ w = w')
    (c5 : ∀ w, Calls Try.prog 12 #[.float .f64 a, .float .f64 b] w fun e w' => e = .returned (.int .i64 o) ∧ w = w')
    (c6 : ∀ w, Calls Try.prog 18 #[.float .f64 b, .float .f64 a] w fun e w' => e = .returned (.float .f64 a) ∧ w = w') :
    Calls Try.prog 8 #[.float .f64 a, .float .f64 b] w fun e w' => e = .returned (.bool true) ∧ Fresh w w' := by
  have c7 := fun w => alive_any w
  go_enter Try.func8, Try.ntmps8
  go_wp2_with fail
  refine (c1 _).mono ?_; rintro e w' ⟨rfl, rfl⟩
  go_wp2_with fail
  refine (c2 _).mono ?_; rintro e w' ⟨rfl, rfl⟩
  go_wp2_with fail
  refine (c3 _).mono ?_; rintro e w' ⟨rfl, rfl⟩
  go_wp2_with fail
  refine (c4 _).mono ?_; rintro e w' ⟨rfl, rfl⟩
  go_wp2_with fail
  refine (c7 _).mono ?_; rintro e w1 ⟨rfl, g1⟩
  have G1 : Hid (Fresh w w1) := g1
  clear g1
  go_wp2_with fail
  refine (c5 _).mono ?_; rintro e w' ⟨rfl, rfl⟩
  go_wp2_with fail
  refine (c6 _).mono ?_; rintro e w' ⟨rfl, rfl⟩
  go_wp2_with fail
  refine (c3 _).mono ?_; rintro e w' ⟨rfl, rfl⟩
  go_wp2
  go_ret
  exact ⟨rfl, G1.out⟩

set_option maxHeartbeats 1000000 in
theorem picks_second (a b : Nat) (o : Int) (w : World) (hna : (FloatKind.f64.format.order a a != some .eq) = false) (hnb : (FloatKind.f64.format.order b b != some .eq) = false) (ho : o ≤ 0)
    (c1 : ∀ w, Calls Try.prog 18 #[.float .f64 a, .float .f64 b] w fun e w' => e = .returned (.float .f64 b) ∧ w = w')
    (c2 : ∀ w, Calls Try.prog 20 #[.float .f64 a, .float .f64 b] w fun e w' => e = .returned (.float .f64 a) ∧ w = w')
    (c0 : ∀ w, Calls Try.prog 14 #[.float .f64 b, .float .f64 a] w fun e w' => e = .returned (.bool false) ∧ w = w')
    (c3 : ∀ w, Calls Try.prog 14 #[.float .f64 b, .float .f64 b] w fun e w' => e = .returned (.bool true) ∧ w = w')
    (c4 : ∀ w, Calls Try.prog 14 #[.float .f64 a, .float .f64 a] w fun e w' => e = .returned (.bool true) ∧ w = w')
    (c5 : ∀ w, Calls Try.prog 12 #[.float .f64 b, .float .f64 a] w fun e w' => e = .returned (.int .i64 o) ∧ w = w')
    (c6 : ∀ w, Calls Try.prog 18 #[.float .f64 b, .float .f64 a] w fun e w' => e = .returned (.float .f64 b) ∧ w = w') :
    Calls Try.prog 8 #[.float .f64 a, .float .f64 b] w fun e w' => e = .returned (.bool true) ∧ Fresh w w' := by
  have c7 := fun w => alive_any w
  go_enter Try.func8, Try.ntmps8
  go_wp2_with fail
  refine (c1 _).mono ?_; rintro e w' ⟨rfl, rfl⟩
  go_wp2_with fail
  refine (c2 _).mono ?_; rintro e w' ⟨rfl, rfl⟩
  go_wp2_with fail
  refine (c0 _).mono ?_; rintro e w' ⟨rfl, rfl⟩
  go_wp2_with fail
  refine (c3 _).mono ?_; rintro e w' ⟨rfl, rfl⟩
  go_wp2_with fail
  refine (c4 _).mono ?_; rintro e w' ⟨rfl, rfl⟩
  go_wp2_with fail
  refine (c7 _).mono ?_; rintro e w1 ⟨rfl, g1⟩
  have G1 : Hid (Fresh w w1) := g1
  clear g1
  go_wp2_with fail
  refine (c5 _).mono ?_; rintro e w' ⟨rfl, rfl⟩
  go_wp2_with fail
  refine (c6 _).mono ?_; rintro e w' ⟨rfl, rfl⟩
  go_wp2_with fail
  refine (c3 _).mono ?_; rintro e w' ⟨rfl, rfl⟩
  go_wp2
  go_ret
  exact ⟨rfl, G1.out⟩

theorem ord_anti (a b : Nat) : ord b a = - ord a b := by
  rcases Nat.lt_trichotomy (place a) (place b) with h | h | h
  · rw [ord_lt h, ord_gt h]; rfl
  · rw [ord_eq (by omega) (by omega), ord_eq (by omega) (by omega)]; rfl
  · rw [ord_gt h, ord_lt h]

theorem same_self (a : Nat) (w : World) (ha : U64 a) : Calls Try.prog 14 #[.float .f64 a, .float .f64 a] w fun e w' => e = .returned (.bool true) ∧ w = w' := by
  have h := same_any a a w ha ha
  rwa [show decide (a = a) = true by simp] at h

theorem picks_any (a b : Nat) (w : World) (ha : U64 a) (hb : U64 b) : Calls Try.prog 8 #[.float .f64 a, .float .f64 b] w fun e w' => e = .returned (.bool true) ∧ Fresh w w' := by
  have L := fun w => least_any a b w ha hb
  have L' := fun w => least_any b a w hb ha
  have G := fun w => greatest_any a b w ha hb
  unfold least at L L'
  unfold greatest at G
  cases hn : (nanB a || nanB b)
  · rw [hn] at L G
    rw [Bool.or_comm, hn] at L'
    have hna : nanB a = false := by cases h : nanB a <;> simp_all
    have hnb : nanB b = false := by cases h : nanB b <;> simp_all
    rw [← nan_order] at hna hnb
    simp only [Bool.false_eq_true, if_false] at L L' G
    rw [ord_anti a b] at L'
    by_cases ho : ord a b ≤ 0
    · rw [if_pos ho] at L
      have hG : (if 0 ≤ ord a b then a else b) = b := by
        by_cases h0 : ord a b = 0
        · rw [if_pos (by omega)]; exact ord_zero_eq ha hb h0
        · rw [if_neg (by omega)]
      have hL : (if - ord a b ≤ 0 then b else a) = a := by
        by_cases h0 : ord a b = 0
        · rw [if_pos (by omega)]; exact (ord_zero_eq ha hb h0).symm
        · rw [if_neg (by omega)]
      rw [hG] at G
      rw [hL] at L'
      exact picks_first a b (ord a b) w hna hnb ho L G (fun w => same_self a w ha) (fun w => same_self b w hb) (fun w => order_any a b w ha hb) L'
    · rw [if_neg ho] at L
      rw [if_pos (by omega)] at G L'
      have hne : a ≠ b := fun e => by subst e; rw [ord_eq (by omega) (by omega)] at ho; omega
      refine picks_second a b (ord b a) w hna hnb (by rw [ord_anti]; omega) L G (fun w => ?_) (fun w => same_self b w hb) (fun w => same_self a w ha) (fun w => order_any b a w hb ha) L'
      have h := same_any b a w hb ha
      rwa [show decide (b = a) = false by simp; exact fun e => hne e.symm] at h
  · rw [hn] at L G
    simp only [if_true] at L G
    rw [← nan_order, ← nan_order] at hn
    exact picks_nan a b _ _ w rfl rfl hn L G
end Go.Proofs.Ytnmadkallkoadaa
