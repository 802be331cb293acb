/-
  alive answers true.
-/
import Derived.Test.YtnmadkallkoadaaNoteR
import Derived.Test.YtnmadkallkoadaaRate
namespace Go.Proofs.Ytnmadkallkoadaa
open Go.RowKit Go.GMath
attribute [local go_sem] run25 run40 run_store_float

theorem u64 {x : Nat} (h : decide (x < 18446744073709551616) = true) : U64 x := by unfold U64; exact of_decide_eq_true h
def F8 : Nat := 4620693217682128896
def F16 : Nat := 4625196817309499392
theorem f_sub : Ieee.double.sub F16 F8 = some F8 := by decide +kernel
theorem f_mul : Ieee.double.mul F8 PART = some 4607182418800017408 := by decide +kernel
theorem f_add : Ieee.double.add F8 4607182418800017408 = some 4621256167635550208 := by decide +kernel

theorem n1 (w : World) : Calls Try.prog 23 #[.agg #[.int .u64 0, .int .u64 0, .float .f64 0, .float .f64 0, .float .f64 0], .float .f64 4620693217682128896] w
    fun e w' => e = .returned (.agg #[.int .u64 1, .int .u64 0, .float .f64 4620693217682128896, .float .f64 4620693217682128896, .float .f64 4620693217682128896]) ∧ Fresh w w' :=
  note_first 0 0 0 0 0 F8 w (u64 (by decide)) (by decide +kernel) rfl
theorem n2 (w : World) : Calls Try.prog 23 #[.agg #[.int .u64 1, .int .u64 0, .float .f64 4620693217682128896, .float .f64 4620693217682128896, .float .f64 4620693217682128896], .float .f64 4625196817309499392] w
    fun e w' => e = .returned (.agg #[.int .u64 2, .int .u64 0, .float .f64 4620693217682128896, .float .f64 4625196817309499392, .float .f64 4621256167635550208]) ∧ Fresh w w' := by
  have h := note_late 1 0 F8 F8 F8 F16 F8 4607182418800017408 4621256167635550208 w (u64 (by decide)) (u64 (by decide)) (u64 (by decide)) (u64 (by decide)) (by decide +kernel) (by decide) (by decide) f_sub f_mul f_add
  have e1 : least F8 F16 = F8 := by decide +kernel
  have e2 : greatest F8 F16 = F16 := by decide +kernel
  have e3 : (if cntB 4621256167635550208 = true then 4621256167635550208 else F16) = 4621256167635550208 := by decide +kernel
  rw [e1, e2, e3] at h
  exact h
theorem n3 (w : World) : Calls Try.prog 23 #[.agg #[.int .u64 2, .int .u64 0, .float .f64 4620693217682128896, .float .f64 4625196817309499392, .float .f64 4621256167635550208], .float .f64 INF] w
    fun e w' => e = .returned (.agg #[.int .u64 2, .int .u64 1, .float .f64 4620693217682128896, .float .f64 4625196817309499392, .float .f64 4621256167635550208]) ∧ Fresh w w' :=
  note_bad 2 0 F8 F16 4621256167635550208 INF w (u64 (by decide)) (by decide +kernel) (by decide)
theorem r3 (w : World) : Calls Try.prog 21 #[.int .u64 3, .int .i64 1000] w fun e w' => e = .returned (.tuple #[.float .f64 4613937818241073152, .int .i64 0]) ∧ w = w' :=
  rate_num 3 1000 4658815484840378368 4613937818241073152 w (by decide) (by decide +kernel) (by decide +kernel)
theorem o1 (w : World) : Calls Try.prog 12 #[.float .f64 SW, .float .f64 0] w fun e w' => e = .returned (.int .i64 (-1)) ∧ w = w' := by
  have h := order_any SW 0 w (u64 (by decide)) (u64 (by decide))
  rwa [show ord SW 0 = -1 by decide +kernel] at h
theorem l1 (w : World) : Calls Try.prog 18 #[.float .f64 0, .float .f64 SW] w fun e w' => e = .returned (.float .f64 SW) ∧ w = w' := by
  have h := least_any 0 SW w (u64 (by decide)) (u64 (by decide))
  rwa [show least 0 SW = SW by decide +kernel] at h
theorem s1 (w : World) : Calls Try.prog 14 #[.float .f64 SW, .float .f64 SW] w fun e w' => e = .returned (.bool true) ∧ w = w' := by
  have h := same_any SW SW w (u64 (by decide)) (u64 (by decide))
  rwa [show decide (SW = SW) = true by decide +kernel] at h
set_option maxHeartbeats 1000000 in
theorem alive_any (w : World) : Calls Try.prog 11 #[] w fun e w' => e = .returned (.bool true) ∧ Fresh w w' := by
  have k1 : (FloatKind.f64.format.order NONE NONE != some Ordering.eq) = true := by decide +kernel
  have k2 : (FloatKind.f64.format.order 4613937818241073152 4613937818241073152 == some Ordering.eq) = true := by decide +kernel
  have k3 : ∀ w, (binOp .eql 36 (.agg #[.int .u64 2, .int .u64 1, .float .f64 4620693217682128896, .float .f64 4625196817309499392, .float .f64 4621256167635550208])
      (.agg #[.int .u64 2, .int .u64 1, .float .f64 4620693217682128896, .float .f64 4625196817309499392, .float .f64 4621256167635550208])).run Try.prog w = .ok (.bool true) w := fun _ => by kernel_rfl
  go_enter Try.func11, Try.ntmps11
  go_wp2_with fail
  go_at_call 32
  refine (copysign_any _).mono ?_; rintro e w' ⟨rfl, rfl⟩
  go_wp2_with fail
  go_at_call 21
  refine (rate_zero _).mono ?_; rintro e w' ⟨rfl, rfl⟩
  go_wp2_with fail
  go_at_call 21
  refine (r3 _).mono ?_; rintro e w' ⟨rfl, rfl⟩
  go_wp2_with fail
  go_at_call 23
  refine (n1 _).mono ?_; rintro e w1 ⟨rfl, g1⟩
  have G1 : Hid (Fresh w w1) := g1
  clear g1
  go_wp2_with fail
  go_at_call 23
  refine (n2 _).mono ?_; rintro e w2 ⟨rfl, g2⟩
  have G2 : Hid (Fresh w w2) := Fresh.trans G1.out g2
  clear g2 G1
  go_wp2_with fail
  go_at_call 33
  refine (inf_any _).mono ?_; rintro e w' ⟨rfl, rfl⟩
  go_wp2_with fail
  go_at_call 23
  refine (n3 _).mono ?_; rintro e w3 ⟨rfl, g3⟩
  have G3 : Hid (Fresh w w3) := Fresh.trans G2.out g3
  clear g3 G2
  go_wp2_with fail
  go_at_call 12
  refine (o1 _).mono ?_; rintro e w' ⟨rfl, rfl⟩
  go_wp2_with fail
  go_at_call 18
  refine (l1 _).mono ?_; rintro e w' ⟨rfl, rfl⟩
  go_wp2_with fail
  go_at_call 14
  refine (s1 _).mono ?_; rintro e w' ⟨rfl, rfl⟩
  go_wp2
  go_ret
  exact ⟨rfl, G3.out.alloc _ _⟩
end Go.Proofs.Ytnmadkallkoadaa
