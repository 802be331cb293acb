/-
  The contracts of Rate, of package gauge and of its reference, and of what alive calls besides.
-/
import Derived.Test.YtnmadkallkoadaaCalls2
import Derived.Laws.FloatArith
namespace Go.Proofs.Ytnmadkallkoadaa
open Go.RowKit Go.GMath
attribute [local go_sem] run25 run40

theorem ret_pair {a b : Nat} {k : IntKind} {c : Int} (h : a = b) : Ending.returned (.tuple #[.float .f64 a, .int k c]) = .returned (.tuple #[.float .f64 b, .int k c]) := by rw [h]

def K1000 : Nat := 4652007308841189376
set_option maxHeartbeats 400000 in
theorem inf_any (w : World) : Calls Try.prog 33 #[.int .i64 1] w fun e w' => e = .returned (.float .f64 INF) ∧ w = w' := by
  obtain ⟨c, hc⟩ : ∃ c : Int, c = 9218868437227405312 := ⟨_, rfl⟩
  have Hc : Hid (c = 9218868437227405312) := hc
  go_enter Try.func33, Try.ntmps33
  rw [← hc]
  clear hc
  go_wp2
  go_ret
  exact ⟨ret_f (by rw [Hc.out]; rfl), rfl⟩

set_option maxHeartbeats 400000 in
theorem rate_neg (n : Nat) (ms : Int) (w : World) (h : ms < 0) : Calls Try.prog 21 #[.int .u64 n, .int .i64 ms] w fun e w' => e = .returned (.tuple #[.float .f64 0, .int .i64 1]) ∧ w = w' := by
  go_enter Try.func21, Try.ntmps21
  go_wp2
  go_ret2
  exact ⟨rfl, rfl⟩
set_option maxHeartbeats 400000 in
theorem rate_zero (w : World) : Calls Try.prog 21 #[.int .u64 0, .int .i64 0] w fun e w' => e = .returned (.tuple #[.float .f64 NONE, .int .i64 0]) ∧ w = w' := by
  go_enter Try.func21, Try.ntmps21
  go_wp2_with (go_at_call 38; refine (none_any _).mono ?_; rintro e w' ⟨rfl, rfl⟩)
  go_ret2
  exact ⟨rfl, rfl⟩
set_option maxHeartbeats 400000 in
theorem rate_inf (n : Nat) (w : World) (h : ((n : Int) == 0) = false) : Calls Try.prog 21 #[.int .u64 n, .int .i64 0] w fun e w' => e = .returned (.tuple #[.float .f64 INF, .int .i64 0]) ∧ w = w' := by
  go_enter Try.func21, Try.ntmps21
  go_wp2_with (go_at_call 33; refine (inf_any _).mono ?_; rintro e w' ⟨rfl, rfl⟩)
  go_ret2
  exact ⟨rfl, rfl⟩
set_option maxHeartbeats 400000 in
theorem rate_num (n : Nat) (ms : Int) (p q : Nat) (w : World) (h : 0 < ms) (hp : Ieee.double.mul (floatOfInt .f64 n) K1000 = some p) (hq : Ieee.double.div p (floatOfInt .f64 ms) = some q) :
    Calls Try.prog 21 #[.int .u64 n, .int .i64 ms] w fun e w' => e = .returned (.tuple #[.float .f64 q, .int .i64 0]) ∧ w = w' := by
  have h0 : (ms == 0) = false := by simp; omega
  have rE : ∀ w, (binOp .mul 22 (.float .f64 (floatOfInt .f64 n)) (.float .f64 4652007308841189376)).run Try.prog w = .ok (.float .f64 p) w := fun w => run_float_arith w .mul 22 .f64 _ K1000 p hp
  have rS : ∀ w, (binOp .quo 22 (.float .f64 p) (.float .f64 (floatOfInt .f64 ms))).run Try.prog w = .ok (.float .f64 q) w := fun w => run_float_arith w .quo 22 .f64 _ _ q hq
  clear hp hq
  go_enter Try.func21, Try.ntmps21
  go_wp2
  go_ret2
  exact ⟨rfl, rfl⟩

set_option maxHeartbeats 400000 in
theorem rrate_neg (n : Nat) (ms : Int) (w : World) (h : ms < 0) : Calls Try.prog 22 #[.int .u64 n, .int .i64 ms] w fun e w' => e = .returned (.tuple #[.float .f64 0, .int .i64 1]) ∧ w = w' := by
  go_enter Try.func22, Try.ntmps22
  go_wp2
  go_ret2
  exact ⟨rfl, rfl⟩
set_option maxHeartbeats 400000 in
theorem rrate_zero (w : World) : Calls Try.prog 22 #[.int .u64 0, .int .i64 0] w fun e w' => e = .returned (.tuple #[.float .f64 NONE, .int .i64 0]) ∧ w = w' := by
  go_enter Try.func22, Try.ntmps22
  go_wp2_with (go_at_call 26; refine (rnone_any _).mono ?_; rintro e w' ⟨rfl, rfl⟩)
  go_ret2
  exact ⟨rfl, rfl⟩
set_option maxHeartbeats 400000 in
theorem rrate_inf (n : Nat) (w : World) (h : ((n : Int) == 0) = false) : Calls Try.prog 22 #[.int .u64 n, .int .i64 0] w fun e w' => e = .returned (.tuple #[.float .f64 INF, .int .i64 0]) ∧ w = w' := by
  obtain ⟨c, hc⟩ : ∃ c : Int, c = 9218868437227405312 := ⟨_, rfl⟩
  have Hc : Hid (c = 9218868437227405312) := hc
  go_enter Try.func22, Try.ntmps22
  rw [← hc]
  clear hc
  go_wp2
  go_ret2
  exact ⟨ret_pair (by rw [Hc.out]; rfl), rfl⟩
set_option maxHeartbeats 400000 in
theorem rrate_num (n : Nat) (ms : Int) (p q : Nat) (w : World) (h : 0 < ms) (hp : Ieee.double.mul (floatOfInt .f64 n) K1000 = some p) (hq : Ieee.double.div p (floatOfInt .f64 ms) = some q) :
    Calls Try.prog 22 #[.int .u64 n, .int .i64 ms] w fun e w' => e = .returned (.tuple #[.float .f64 q, .int .i64 0]) ∧ w = w' := by
  have h0 : (ms == 0) = false := by simp; omega
  have rE : ∀ w, (binOp .mul 22 (.float .f64 (floatOfInt .f64 n)) (.float .f64 4652007308841189376)).run Try.prog w = .ok (.float .f64 p) w := fun w => run_float_arith w .mul 22 .f64 _ K1000 p hp
  have rS : ∀ w, (binOp .quo 22 (.float .f64 p) (.float .f64 (floatOfInt .f64 ms))).run Try.prog w = .ok (.float .f64 q) w := fun w => run_float_arith w .quo 22 .f64 _ _ q hq
  clear hp hq
  go_enter Try.func22, Try.ntmps22
  go_wp2
  go_ret2
  exact ⟨rfl, rfl⟩

set_option maxHeartbeats 400000 in
theorem copysign_any (w : World) : Calls Try.prog 32 #[.float .f64 0, .float .f64 13830554455654793216] w fun e w' => e = .returned (.float .f64 SW) ∧ w = w' := by
  obtain ⟨c, hc⟩ : ∃ c : Int, c = 9223372036854775808 := ⟨_, rfl⟩
  have Hc : Hid (c = 9223372036854775808) := hc
  obtain ⟨d, hd⟩ : ∃ d : Nat, d = 13830554455654793216 := ⟨_, rfl⟩
  have Hd : Hid (d = 13830554455654793216) := hd
  go_enter Try.func32, Try.ntmps32
  rw [← hc, ← hd]
  clear hc hd
  go_wp2
  go_ret
  exact ⟨ret_f (by rw [Hc.out, Hd.out]; decide +kernel), rfl⟩
end Go.Proofs.Ytnmadkallkoadaa
