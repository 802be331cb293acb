/-
  The contracts of the reference's Note.
-/
import Derived.Test.YtnmadkallkoadaaNote
namespace Go.Proofs.Ytnmadkallkoadaa
open Go.RowKit Go.GMath
attribute [local go_sem] run25 run40 run_store_float

/-- the end of a walk whose result is known -/
theorem close_ret {P : Program} {fn : Func} {a : Act} {w : World} {v : Value} {Q : World → Prop} (hr : (results fn a.tmps).run P w = .ok v w) (hd : a.defers = []) (h : Q w) :
    bodyPost P fn (fun e w' => e = .returned v ∧ Q w') .ret a w := bodyPost_ret hr hd ⟨rfl, h⟩

set_option maxHeartbeats 2000000 in
theorem rnote_late (c d l u s x D E T : Nat) (o p : Int) (w : World) (hl : U64 l) (hh : U64 u) (hx : U64 x) (hcx : cntB x = true) (hc : ((c : Int) + 1 == 1) = false) (hb : c < 1000)
    (hD : Ieee.double.sub x s = some D) (hE : Ieee.double.div D EIGHT = some E) (hS : Ieee.double.add s E = some T) (ho : ord x l = o) (hp : ord x u = p) :
    Calls Try.prog 24 #[.agg #[.int .u64 c, .int .u64 d, .float .f64 l, .float .f64 u, .float .f64 s], .float .f64 x] w fun e w' => e = .returned (.agg #[.int .u64 (c + 1), .int .u64 d, .float .f64 (if o < 0 then x else l), .float .f64 (if 0 < p then x else u), .float .f64 (if cntB T then T else x)]) ∧ Fresh w w' := by
  have h1 := fun w => rcounts_any x w
  have h2 := fun w => rcounts_any T w
  rw [hcx] at h1
  have h3 := fun w => rorder_any x l w hx hl
  have h4 := fun w => rorder_any x u w hx hh
  rw [ho] at h3
  rw [hp] at h4
  have rD : ∀ w, (binOp .sub 22 (.float .f64 x) (.float .f64 s)).run Try.prog w = .ok (.float .f64 D) w := fun w => run_float_arith w .sub 22 .f64 x s D hD
  have rE : ∀ w, (binOp .quo 22 (.float .f64 D) (.float .f64 4620693217682128896)).run Try.prog w = .ok (.float .f64 E) w := fun w => run_float_arith w .quo 22 .f64 D EIGHT E hE
  have rS : ∀ w, (binOp .add 22 (.float .f64 s) (.float .f64 E)).run Try.prog w = .ok (.float .f64 T) w := fun w => run_float_arith w .add 22 .f64 s E T hS
  clear hD hE hS hl hh hx hcx ho hp
  cases hT : cntB T <;> by_cases o0 : o < 0 <;> by_cases p0 : 0 < p
  all_goals
    rw [hT] at h2
    clear hT
    go_enter Try.func24, Try.ntmps24
    go_wp2_with fail
    refine (h1 _).mono ?_
    rintro e w' ⟨rfl, rfl⟩
    clear h1
    go_wp2_with fail
    refine (h3 _).mono ?_
    rintro e w' ⟨rfl, rfl⟩
    clear h3
    go_wp2_with fail
    refine (h4 _).mono ?_
    rintro e w' ⟨rfl, rfl⟩
    clear h4
    go_wp2_with fail
    refine (h2 _).mono ?_
    rintro e w' ⟨rfl, rfl⟩
    clear h2
    go_wp2
  all_goals refine close_ret (by simp [results, Try.results24, go_sem]; done) rfl ?_
  all_goals repeat (first | exact Fresh.refl _ | apply Fresh.drew | apply Fresh.alloc)

set_option maxHeartbeats 1000000 in
theorem rnote_first (c d l u s x : Nat) (w : World) (hcx : cntB x = true) (hc : c = 0) :
    Calls Try.prog 24 #[.agg #[.int .u64 c, .int .u64 d, .float .f64 l, .float .f64 u, .float .f64 s], .float .f64 x] w fun e w' => e = .returned (.agg #[.int .u64 1, .int .u64 d, .float .f64 x, .float .f64 x, .float .f64 x]) ∧ Fresh w w' := by
  subst hc
  have h1 := fun w => rcounts_any x w
  rw [hcx] at h1
  clear hcx
  go_enter Try.func24, Try.ntmps24
  go_wp2_with (go_at_call 16; refine (h1 _).mono ?_; rintro e w' ⟨rfl, rfl⟩)
  refine close_ret (by simp [results, Try.results24, go_sem]; done) rfl ?_
  repeat (first | exact Fresh.refl _ | apply Fresh.drew | apply Fresh.alloc)

set_option maxHeartbeats 1000000 in
theorem rnote_bad (c d l u s x : Nat) (w : World) (hcx : cntB x = false) (hd : d < 1000) :
    Calls Try.prog 24 #[.agg #[.int .u64 c, .int .u64 d, .float .f64 l, .float .f64 u, .float .f64 s], .float .f64 x] w fun e w' => e = .returned (.agg #[.int .u64 c, .int .u64 (d + 1), .float .f64 l, .float .f64 u, .float .f64 s]) ∧ Fresh w w' := by
  have h1 := fun w => rcounts_any x w
  rw [hcx] at h1
  clear hcx
  go_enter Try.func24, Try.ntmps24
  go_wp2_with (go_at_call 16; refine (h1 _).mono ?_; rintro e w' ⟨rfl, rfl⟩)
  refine close_ret (by simp [results, Try.results24, go_sem]; done) rfl ?_
  repeat (first | exact Fresh.refl _ | apply Fresh.drew | apply Fresh.alloc)
end Go.Proofs.Ytnmadkallkoadaa
