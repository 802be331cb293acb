/-
  The contracts of the functions of package gauge and of its reference that take and give numbers alone.
-/
import Derived.Test.YtnmadkallkoadaaChecked
import Derived.Test.YtnmadkallkoadaaMath
import Derived.WalkKit
import Derived.WalkLawsBesides
import Derived.WalkSpells
namespace Go.Proofs.Ytnmadkallkoadaa
open Go.RowKit Go.GMath
theorem run25 (x : Nat) (w : World) : (callFunc 25 #[.float .f64 x]).run Try.prog w = .ok (.value (.int .u64 (x : Int))) w := by kernel_rfl
theorem run40 (n : Int) (w : World) : (callFunc 40 #[.int .u64 n]).run Try.prog w = .ok (.value (.float .f64 n.toNat)) w := by kernel_rfl
attribute [local go_sem] run25 run40

theorem wf_u64 {x : Nat} (h : (Lit.float .f64 x).wf = true) : U64 x := by
  have h' : x < 2 ^ 64 := by simpa [Lit.wf] using h
  exact h'

theorem ret_int {k : IntKind} {a b : Int} (h : a = b) : Ending.returned (.int k a) = .returned (.int k b) := by rw [h]
theorem ret_bool {a b : Bool} (h : a = b) : Ending.returned (.bool a) = .returned (.bool b) := by rw [h]
theorem ret_f {a b : Nat} (h : a = b) : Ending.returned (.float .f64 a) = .returned (.float .f64 b) := by rw [h]

set_option maxHeartbeats 400000 in
theorem place_any (x : Nat) (w : World) (hx : U64 x) : Calls Try.prog 34 #[.float .f64 x] w fun e w' => e = .returned (.int .u64 (place x)) ∧ w = w' := by
  obtain ⟨c, hc⟩ : ∃ c : Int, c = 9223372036854775808 := ⟨_, rfl⟩
  have Hc : Hid (c = 9223372036854775808) := hc
  go_enter Try.func34, Try.ntmps34
  rw [← hc]
  clear hc
  go_wp2
  · have h : c ≤ ↑x := by assumption
    have h' : ¬ x < SW := by rw [Hc.out] at h; unfold SW; omega
    go_ret
    exact ⟨ret_int (by rw [place_hi h']; exact GMath.u64_xor x hx), rfl⟩
  · have h : ↑x < c := by assumption
    have h' : x < SW := by rw [Hc.out] at h; unfold SW; omega
    go_ret
    exact ⟨ret_int (by rw [place_lo h', Hc.out]; exact GMath.u64_or x h'), rfl⟩

set_option maxHeartbeats 400000 in
theorem order_any (a b : Nat) (w : World) (ha : U64 a) (hb : U64 b) : Calls Try.prog 12 #[.float .f64 a, .float .f64 b] w fun e w' => e = .returned (.int .i64 (ord a b)) ∧ w = w' := by
  have h1 := place_any a w ha
  have h2 := place_any b w hb
  go_enter Try.func12, Try.ntmps12
  go_wp2_with fail
  refine h1.mono ?_
  rintro e w' ⟨rfl, rfl⟩
  clear h1
  go_wp2_with fail
  refine h2.mono ?_
  rintro e w' ⟨rfl, rfl⟩
  clear h2
  generalize hp : place a = p
  generalize hq : place b = q
  have Hp : Hid (place a = p) := hp
  have Hq : Hid (place b = q) := hq
  clear hp hq
  go_wp2
  · have h : p < q := by assumption
    go_ret
    exact ⟨ret_int (ord_lt (by rw [Hp.out, Hq.out]; exact h)).symm, rfl⟩
  · have h : q < p := by assumption
    go_ret
    exact ⟨ret_int (ord_gt (by rw [Hp.out, Hq.out]; exact h)).symm, rfl⟩
  · have h : ¬ p < q := by assumption
    have h' : ¬ q < p := by assumption
    go_ret
    exact ⟨ret_int (ord_eq (by rw [Hp.out, Hq.out]; exact h) (by rw [Hp.out, Hq.out]; exact h')).symm, rfl⟩

theorem ord_zero {a b : Nat} (ha : U64 a) (hb : U64 b) : (ord a b == 0) = decide (a = b) := by
  by_cases h : a = b
  · subst h; simp [ord]
  · have h0 : place a ≠ place b := fun e => h (place_inj ha hb e)
    rcases Nat.lt_or_gt_of_ne h0 with h1 | h1
    · rw [ord_lt h1]; simp [h]
    · rw [ord_gt h1]; simp [h]

set_option maxHeartbeats 400000 in
theorem same_any (a b : Nat) (w : World) (ha : U64 a) (hb : U64 b) : Calls Try.prog 14 #[.float .f64 a, .float .f64 b] w fun e w' => e = .returned (.bool (decide (a = b))) ∧ w = w' := by
  have h1 := order_any a b w ha hb
  go_enter Try.func14, Try.ntmps14
  go_wp2_with fail
  refine h1.mono ?_
  rintro e w' ⟨rfl, rfl⟩
  clear h1
  go_wp2
  go_ret
  exact ⟨ret_bool (ord_zero ha hb), rfl⟩

set_option maxHeartbeats 400000 in
theorem isnan_any (x : Nat) (w : World) : Calls Try.prog 36 #[.float .f64 x] w fun e w' => e = .returned (.bool (nanB x)) ∧ w = w' := by
  go_enter Try.func36, Try.ntmps36
  go_wp2
  go_ret
  exact ⟨ret_bool (nan_order x), rfl⟩

set_option maxHeartbeats 400000 in
theorem abs_any (x : Nat) (w : World) (hx : U64 x) : Calls Try.prog 44 #[.float .f64 x] w fun e w' => e = .returned (.float .f64 (x % SW)) ∧ w = w' := by
  obtain ⟨c, hc⟩ : ∃ c : Int, c = 9223372036854775808 := ⟨_, rfl⟩
  have Hc : Hid (c = 9223372036854775808) := hc
  go_enter Try.func44, Try.ntmps44
  rw [← hc]
  clear hc
  go_wp2
  go_ret
  exact ⟨ret_f (by rw [Hc.out, u64_andNot_top x hx]; rfl), rfl⟩

set_option maxHeartbeats 400000 in
theorem isinf_any (x : Nat) (w : World) (hx : U64 x) : Calls Try.prog 37 #[.float .f64 x, .int .i64 0] w fun e w' => e = .returned (.bool (infB x)) ∧ w = w' := by
  have h1 := abs_any x w hx
  go_enter Try.func37, Try.ntmps37
  go_wp2_with fail
  refine h1.mono ?_
  rintro e w' ⟨rfl, rfl⟩
  clear h1
  go_wp2
  go_ret
  exact ⟨ret_bool (inf_order x), rfl⟩

theorem cnt_of (x : Nat) : cntB x = (!nanB x && !infB x) := by
  unfold cntB nanB infB
  by_cases h1 : INF < x % SW
  · have : ¬ x % SW < INF := by omega
    simp [h1, this]
  · by_cases h2 : x % SW = INF
    · have : ¬ x % SW < INF := by omega
      simp [h2]
    · have : x % SW < INF := by omega
      simp [h1, h2, this]

set_option maxHeartbeats 400000 in
theorem counts_any (x : Nat) (w : World) (hx : U64 x) : Calls Try.prog 15 #[.float .f64 x] w fun e w' => e = .returned (.bool (cntB x)) ∧ w = w' := by
  have h1 := isnan_any x w
  have h2 := isinf_any x w hx
  rw [cnt_of]
  cases hn : nanB x
  all_goals
    rw [hn] at h1
    clear hn
    go_enter Try.func15, Try.ntmps15
    go_wp2_with fail
    refine h1.mono ?_
    rintro e w' ⟨rfl, rfl⟩
    clear h1
    go_wp2_with fail
  · refine h2.mono ?_
    rintro e w' ⟨rfl, rfl⟩
    clear h2
    go_wp2
    go_ret
    exact ⟨rfl, rfl⟩
  · go_ret
    exact ⟨rfl, rfl⟩

set_option maxHeartbeats 400000 in
theorem none_any (w : World) : Calls Try.prog 38 #[] w fun e w' => e = .returned (.float .f64 NONE) ∧ w = w' := by
  obtain ⟨c, hc⟩ : ∃ c : Int, c = 9221120237041090561 := ⟨_, rfl⟩
  have Hc : Hid (c = 9221120237041090561) := hc
  go_enter Try.func38, Try.ntmps38
  rw [← hc]
  clear hc
  go_wp2
  go_ret
  exact ⟨ret_f (by rw [Hc.out]; rfl), rfl⟩
set_option maxHeartbeats 400000 in
theorem rnone_any (w : World) : Calls Try.prog 26 #[] w fun e w' => e = .returned (.float .f64 NONE) ∧ w = w' := by
  obtain ⟨c, hc⟩ : ∃ c : Int, c = 9221120237041090561 := ⟨_, rfl⟩
  have Hc : Hid (c = 9221120237041090561) := hc
  go_enter Try.func26, Try.ntmps26
  rw [← hc]
  clear hc
  go_wp2
  go_ret
  exact ⟨ret_f (by rw [Hc.out]; rfl), rfl⟩

set_option maxHeartbeats 400000 in
theorem below_any (x : Nat) (w : World) : Calls Try.prog 35 #[.float .f64 x] w fun e w' => e = .returned (.bool (topB x)) ∧ w = w' := by
  obtain ⟨c, hc⟩ : ∃ c : Int, c = 9223372036854775808 := ⟨_, rfl⟩
  have Hc : Hid (c = 9223372036854775808) := hc
  go_enter Try.func35, Try.ntmps35
  rw [← hc]
  clear hc
  go_wp2
  go_ret
  exact ⟨ret_bool (by rw [Hc.out]; unfold topB SW; rw [decide_eq_decide]; omega), rfl⟩

set_option maxHeartbeats 400000 in
theorem number_any (x : Nat) (w : World) : Calls Try.prog 39 #[.float .f64 x] w fun e w' => e = .returned (.bool (numB x)) ∧ w = w' := by
  obtain ⟨c, hc⟩ : ∃ c : Int, c = 9223372036854775808 := ⟨_, rfl⟩
  have Hc : Hid (c = 9223372036854775808) := hc
  obtain ⟨d, hd⟩ : ∃ d : Int, d = 9218868437227405312 := ⟨_, rfl⟩
  have Hd : Hid (d = 9218868437227405312) := hd
  go_enter Try.func39, Try.ntmps39
  rw [← hc, ← hd]
  clear hc hd
  go_wp2
  · have h : c = 0 := by assumption
    exact absurd (Hc.out.symm.trans h) (by decide)
  · go_ret
    exact ⟨ret_bool (by rw [Hc.out, Hd.out]; unfold numB SW INF; rw [decide_eq_decide]; omega), rfl⟩

set_option maxHeartbeats 400000 in
theorem rcounts_any (x : Nat) (w : World) : Calls Try.prog 16 #[.float .f64 x] w fun e w' => e = .returned (.bool (cntB x)) ∧ w = w' := by
  obtain ⟨c, hc⟩ : ∃ c : Int, c = 9223372036854775808 := ⟨_, rfl⟩
  have Hc : Hid (c = 9223372036854775808) := hc
  obtain ⟨d, hd⟩ : ∃ d : Int, d = 9218868437227405312 := ⟨_, rfl⟩
  have Hd : Hid (d = 9218868437227405312) := hd
  go_enter Try.func16, Try.ntmps16
  rw [← hc, ← hd]
  clear hc hd
  go_wp2
  · have h : c = 0 := by assumption
    exact absurd (Hc.out.symm.trans h) (by decide)
  · go_ret
    exact ⟨ret_bool (by rw [Hc.out, Hd.out]; unfold cntB SW INF; rw [decide_eq_decide]; omega), rfl⟩
end Go.Proofs.Ytnmadkallkoadaa
