/-
  The walks of the laws on two measures.
-/
import Derived.Test.YtnmadkallkoadaaAlive
namespace Go.Proofs.Ytnmadkallkoadaa
open Go.RowKit Go.GMath
attribute [local go_sem] run25 run40

theorem num_nan (a : Nat) : numB a = !nanB a := by
  unfold numB nanB
  by_cases h : INF < a % SW
  · have : ¬ a % SW ≤ INF := by omega
    simp [h, this]
  · have : a % SW ≤ INF := by omega
    simp [h, this]
theorem ord_zero_eq {a b : Nat} (ha : U64 a) (hb : U64 b) (h : ord a b = 0) : a = b := by
  have := ord_zero ha hb
  rw [h] at this
  exact of_decide_eq_true this.symm
theorem least_pick {a b : Nat} (ha : U64 a) (hb : U64 b) : least a b = pick a b true := by
  unfold least pick
  rw [num_nan, num_nan, Bool.not_not, Bool.not_not]
  split
  · rfl
  · by_cases h1 : ord a b < 0
    · rw [if_pos (by omega)]; simp [h1]
    · by_cases h2 : ord a b = 0
      · rw [if_pos (by omega)]
        simp [ord_zero_eq ha hb h2]
      · rw [if_neg (by omega)]; simp [h1]
theorem greatest_pick (a b : Nat) : greatest a b = pick a b false := by
  unfold greatest pick
  rw [num_nan, num_nan, Bool.not_not, Bool.not_not]
  split
  · rfl
  · by_cases h1 : ord a b < 0
    · rw [if_neg (by omega)]; simp [h1]
    · rw [if_pos (by omega)]; simp [h1]
theorem none_U64 : U64 NONE := u64 (by decide)
theorem pick_U64 {a b : Nat} (c : Bool) (ha : U64 a) (hb : U64 b) : U64 (pick a b c) := by
  unfold pick; split
  · exact none_U64
  · split <;> assumption
theorem least_U64 {a b : Nat} (ha : U64 a) (hb : U64 b) : U64 (least a b) := by
  rw [least_pick ha hb]; exact pick_U64 _ ha hb
theorem greatest_U64 {a b : Nat} (ha : U64 a) (hb : U64 b) : U64 (greatest a b) := by
  rw [greatest_pick]; exact pick_U64 _ ha hb

set_option maxHeartbeats 1000000 in
theorem orders_walk (a b : Nat) (w : World) (ha : U64 a) (hb : U64 b) : Calls Try.prog 3 #[.float .f64 a, .float .f64 b] w fun e w' => e = .returned (.bool true) ∧ Fresh w w' := by
  have c1 := fun w => alive_any w
  have c2 := fun w => order_any a b w ha hb
  have c3 := fun w => rorder_any a b w ha hb
  have c4 := fun w => same_any a b w ha hb
  rw [← ord_zero ha hb] at c4
  have c5 := fun w => counts_any a w ha
  have c6 := fun w => rcounts_any a w
  have c7 := fun w => least_any a b w ha hb
  have c8 := fun w => pick_any a b true w ha hb
  rw [least_pick ha hb] at c7
  have c9 := fun w => rsame_any _ _ w (pick_U64 (a := a) (b := b) true ha hb) (pick_U64 (a := a) (b := b) true ha hb)
  have d7 := fun w => greatest_any a b w ha hb
  have d8 := fun w => pick_any a b false w ha hb
  rw [greatest_pick] at d7
  have d9 := fun w => rsame_any _ _ w (pick_U64 (a := a) (b := b) false ha hb) (pick_U64 (a := a) (b := b) false ha hb)
  simp only [decide_true] at c9 d9
  generalize ord a b = o at *
  generalize cntB a = ca at *
  generalize pick a b true = p at *
  generalize pick a b false = q at *
  clear ha hb
  go_enter Try.func3, Try.ntmps3
  go_wp2_with fail
  refine (c1 _).mono ?_; rintro e w1 ⟨rfl, g1⟩
  have G1 : Hid (Fresh w w1) := g1
  clear g1 c1
  go_wp2_with fail
  refine (c2 _).mono ?_; rintro e w' ⟨rfl, rfl⟩
  go_wp2_with fail
  refine (c3 _).mono ?_; rintro e w' ⟨rfl, rfl⟩
  go_wp2_with fail
  refine (c4 _).mono ?_; rintro e w' ⟨rfl, rfl⟩
  go_wp2_with fail
  refine (c3 _).mono ?_; rintro e w' ⟨rfl, rfl⟩
  go_wp2_with fail
  refine (c5 _).mono ?_; rintro e w' ⟨rfl, rfl⟩
  go_wp2_with fail
  refine (c6 _).mono ?_; rintro e w' ⟨rfl, rfl⟩
  go_wp2_with fail
  refine (c7 _).mono ?_; rintro e w' ⟨rfl, rfl⟩
  go_wp2_with fail
  refine (c8 _).mono ?_; rintro e w' ⟨rfl, rfl⟩
  go_wp2_with fail
  refine (c9 _).mono ?_; rintro e w' ⟨rfl, rfl⟩
  go_wp2_with fail
  refine (d7 _).mono ?_; rintro e w' ⟨rfl, rfl⟩
  go_wp2_with fail
  refine (d8 _).mono ?_; rintro e w' ⟨rfl, rfl⟩
  go_wp2_with fail
  refine (d9 _).mono ?_; rintro e w' ⟨rfl, rfl⟩
  go_wp2
  go_ret
  exact ⟨rfl, G1.out⟩

set_option maxHeartbeats 1000000 in
/-- both rates are one -/
theorem rates_walk (n : Nat) (ms : Int) (w : World) (x : Nat) (k : Int) (hx : U64 x)
    (c1 : ∀ w, Calls Try.prog 21 #[.int .u64 n, .int .i64 ms] w fun e w' => e = .returned (.tuple #[.float .f64 x, .int .i64 k]) ∧ w = w')
    (c2 : ∀ w, Calls Try.prog 22 #[.int .u64 n, .int .i64 ms] w fun e w' => e = .returned (.tuple #[.float .f64 x, .int .i64 k]) ∧ w = w') :
    Calls Try.prog 4 #[.int .u64 n, .int .i64 ms] w fun e w' => e = .returned (.bool true) ∧ Fresh w w' := by
  have c3 := fun w => alive_any w
  have c4 := fun w => rsame_any x x w hx hx
  simp only [decide_true] at c4
  clear hx
  go_enter Try.func4, Try.ntmps4
  go_wp2_with fail
  refine (c1 _).mono ?_; rintro e w' ⟨rfl, rfl⟩
  clear c1
  go_wp2_with fail
  refine (c2 _).mono ?_; rintro e w' ⟨rfl, rfl⟩
  clear c2
  go_wp2_with fail
  refine (c3 _).mono ?_; rintro e w1 ⟨rfl, g1⟩
  have G1 : Hid (Fresh w w1) := g1
  clear g1 c3
  go_wp2_with fail
  refine (c4 _).mono ?_; rintro e w' ⟨rfl, rfl⟩
  clear c4
  go_wp2
  go_ret
  exact ⟨rfl, G1.out⟩

theorem mul_ne {x : Nat} (hx : x % SW ≤ INF) : ∃ p, Ieee.double.mul x K1000 = some p ∧ p % SW ≤ INF := by
  have hk : Ieee.double.read K1000 = .number false 8796093022208000 (-43) := by decide +kernel
  unfold Ieee.Format.mul
  rw [hk]
  rcases Nat.lt_or_eq_of_le hx with hx | hx
  · obtain ⟨m, e, h1, _⟩ := read_fin hx
    rw [h1]
    refine ⟨_, rfl, ?_⟩
    simp only [Ieee.Format.write]
    have h : ∀ p : Int, ∃ u d : Nat, p = Ieee.double.leastPlace + (u : Int) - (d : Int) := fun p => ⟨(p - Ieee.double.leastPlace).toNat, (Ieee.double.leastPlace - p).toNat, by omega⟩
    obtain ⟨u, d, hp⟩ := h (Ieee.double.leastPlace + (e : Int) + -43)
    rw [nearest_eq _ _ _ u d hp, word_mod _ (Rq_le _ _)]
    exact Rq_le _ _
  · rw [read_inf hx]
    simp only [Ieee.Datum.product]
    rw [if_neg (by decide)]
    refine ⟨_, rfl, ?_⟩
    simp only [Ieee.Format.write, infRung_eq]
    rw [word_mod _ (Nat.le_refl _)]
    exact Nat.le_refl _

theorem div_ne {x y m : Nat} {e : Int} (hx : x % SW ≤ INF) (hy : Ieee.double.read y = .number false m e) (hm : m ≠ 0) : ∃ p, Ieee.double.div x y = some p ∧ U64 p := by
  unfold Ieee.Format.div
  rw [hy]
  rcases Nat.lt_or_eq_of_le hx with hx | hx
  · obtain ⟨m', e', h1, _⟩ := read_fin hx
    rw [h1]
    simp only [Ieee.Datum.quotient]
    rw [if_neg hm]
    refine ⟨_, rfl, ?_⟩
    exact Ieee.Format.write_lt Ieee.double _
  · rw [read_inf hx]
    refine ⟨_, rfl, ?_⟩
    exact Ieee.Format.write_lt Ieee.double _

theorem ofInt_eq (n : Nat) {k : Nat} (hk : k = 1074) : floatOfInt .f64 (n : Int) = Rq (n <<< k) 0 := by
  have h0 : decide ((n : Int) < 0) = false := by simp
  have hl : Ieee.double.leastPlace = -1074 := by decide +kernel
  simp only [floatOfInt, FloatKind.nearest, FloatKind.encode, Ieee.Format.write, FloatKind.format]
  rw [h0, Int.natAbs_natCast, nearest_eq false n 0 k 0 (by omega), word_eq]
  simp

theorem ofInt_num {n : Nat} (h1 : 0 < n) (h2 : n ≤ 9223372036854775808) : ∃ m e, Ieee.double.read (floatOfInt .f64 (n : Int)) = .number false m e ∧ m ≠ 0 := by
  obtain ⟨k, hk⟩ : ∃ k : Nat, k = 1074 := ⟨_, rfl⟩
  obtain ⟨N, hN⟩ : ∃ k : Nat, k = 2098 := ⟨_, rfl⟩
  rw [ofInt_eq n hk]
  have hp := Nat.two_pow_pos k
  have a1 : 1 ≤ Rq (n <<< k) 0 := by
    refine le_Rq_of (by decide) ?_
    have : val 1 = 1 := by decide
    rw [this, Nat.shiftLeft_eq]
    exact Nat.mul_pos h1 hp
  obtain ⟨r', hr1, hr2⟩ := pow_rung (L := 63 + k) (by omega)
  have a2 : Rq (n <<< k) 0 ≤ r' := by
    refine Rq_le_of hr1 ?_
    rw [hr2, Nat.pow_zero, Nat.mul_one, Nat.shiftLeft_eq, Nat.pow_add]
    refine Nat.mul_le_mul_right _ ?_
    have : (2 : Nat) ^ 63 = 9223372036854775808 := by decide
    omega
  have a3 : r' ≠ INF := by
    intro e
    rw [e, val_INF hN] at hr2
    have := Nat.pow_lt_pow_right (a := 2) (by decide) (show 63 + k < N by omega)
    omega
  generalize Rq (n <<< k) 0 = r at *
  have hr : r < INF := by omega
  have hs := INF_lt_SW
  have em : r % SW = r := Nat.mod_eq_of_lt (by omega)
  obtain ⟨m, e, k1, k2, _⟩ := read_fin (x := r) (by rw [em]; exact hr)
  have en : neg r = false := by unfold neg; rw [Nat.div_eq_of_lt (by omega)]; rfl
  rw [en] at k1
  refine ⟨m, _, k1, ?_⟩
  intro h0
  rw [h0, em] at k2
  have := val_lt (show 0 < r by omega)
  rw [Nat.zero_shiftLeft] at k2
  omega

theorem rates_any (n : Nat) (ms : Int) (w : World) (hm : ms ≤ 9223372036854775807) : Calls Try.prog 4 #[.int .u64 n, .int .i64 ms] w fun e w' => e = .returned (.bool true) ∧ Fresh w w' := by
  rcases Int.lt_trichotomy ms 0 with h | h | h
  · exact rates_walk n ms w 0 1 (u64 (by decide)) (fun w => rate_neg n ms w h) (fun w => rrate_neg n ms w h)
  · subst h
    by_cases hn : n = 0
    · subst hn
      exact rates_walk 0 0 w NONE 0 none_U64 (fun w => rate_zero w) (fun w => rrate_zero w)
    · have hn' : ((n : Int) == 0) = false := by simp; exact hn
      exact rates_walk n 0 w INF 0 (u64 (by decide)) (fun w => rate_inf n w hn') (fun w => rrate_inf n w hn')
  · obtain ⟨m, rfl⟩ := Int.eq_ofNat_of_zero_le (Int.le_of_lt h)
    have hx : floatOfInt .f64 (n : Int) % SW ≤ INF := by
      obtain ⟨k, hk⟩ : ∃ k : Nat, k = 1074 := ⟨_, rfl⟩
      rw [ofInt_eq n hk, Nat.mod_eq_of_lt]
      · exact Rq_le _ _
      · have := Rq_le (n <<< k) 0
        have := INF_lt_SW
        omega
    obtain ⟨p, hp, hp'⟩ := mul_ne hx
    obtain ⟨m', e', k1, k2⟩ := ofInt_num (n := m) (by omega) (by omega)
    obtain ⟨q, hq, hq'⟩ := div_ne hp' k1 k2
    exact rates_walk n m w q 0 hq' (fun w => rate_num n m p q w h hp hq) (fun w => rrate_num n m p q w h hp hq)

theorem rates_int (n ms : Int) (w : World) (hn : (Lit.int .u64 n).wf = true) (hm : (Lit.int .i64 ms).wf = true) : Calls Try.prog 4 #[.int .u64 n, .int .i64 ms] w fun e w' => e = .returned (.bool true) ∧ Fresh w w' := by
  have h1 : 0 ≤ n ∧ n ≤ 18446744073709551615 := by simpa [Lit.wf, IntKind.min, IntKind.max, IntKind.signed, IntKind.bits] using hn
  have h2 : -9223372036854775808 ≤ ms ∧ ms ≤ 9223372036854775807 := by simpa [Lit.wf, IntKind.min, IntKind.max, IntKind.signed, IntKind.bits] using hm
  obtain ⟨n, rfl⟩ := Int.eq_ofNat_of_zero_le h1.1
  exact rates_any n ms w h2.2
end Go.Proofs.Ytnmadkallkoadaa
