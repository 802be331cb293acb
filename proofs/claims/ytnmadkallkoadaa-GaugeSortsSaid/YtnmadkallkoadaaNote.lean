/-
  The contracts of Note, of package gauge and of its reference.
-/
import Derived.Test.YtnmadkallkoadaaCalls2
import Derived.Test.YtnmadkallkoadaaMath2
import Derived.Deep.RegionWith
import Derived.Laws.FloatArith
namespace Go.Proofs.Ytnmadkallkoadaa
open Go.RowKit Go.GMath
theorem run_store_float {P : Program} (w : World) (a : Addr) (m : Mode) (k : FloatKind) (b : Nat) : (store a (.float k b) m).run P w = stored P w a (.float k b) m := run_store P w a _ m rfl
attribute [local go_sem] run25 run40 run_store_float

/-- new blocks behind, and nothing else -/
def Fresh (w w' : World) : Prop := Grown w w' ∧ Below w.heap.size w w'
theorem Fresh.refl (w : World) : Fresh w w := ⟨Grown.refl w, Below.refl _ w⟩
theorem Fresh.drew {a w : World} (h : Fresh a w) : Fresh a w.drew := ⟨h.1.drew, h.2.drew⟩
theorem Fresh.alloc {a w : World} (h : Fresh a w) (c : Array Value) (t : TypeId) : Fresh a (w.alloc (.cells c t)) := ⟨h.1.alloc c t, h.2.alloc h.2.size _⟩
theorem Fresh.trans {a b c : World} (h : Fresh a b) (k : Fresh b c) : Fresh a c :=
  ⟨⟨World.keptBut_trans h.1.1 k.1.1, fun x => (k.1.2.1 x).trans (h.1.2.1 x), Nat.le_trans h.1.2.2 k.1.2.2⟩, h.2.trans (k.2.mono h.2.size)⟩

set_option maxHeartbeats 2000000 in
theorem note_late (c d l u s x D E T : Nat) (w : World) (hl : U64 l) (hh : U64 u) (hx : U64 x) (hT : U64 T) (hcx : cntB x = true) (hc : ((c : Int) + 1 == 1) = false) (hb : c < 1000)
    (hD : Ieee.double.sub x s = some D) (hE : Ieee.double.mul D PART = some E) (hS : Ieee.double.add s E = some T) :
    Calls Try.prog 23 #[.agg #[.int .u64 c, .int .u64 d, .float .f64 l, .float .f64 u, .float .f64 s], .float .f64 x] w fun e w' => e = .returned (.agg #[.int .u64 (c + 1), .int .u64 d, .float .f64 (least l x), .float .f64 (greatest u x), .float .f64 (if cntB T then T else x)]) ∧ Fresh w w' := by
  have h1 := fun w => counts_any x w hx
  have h2 := fun w => counts_any T w hT
  rw [hcx] at h1
  have h3 := fun w => least_any l x w hl hx
  have h4 := fun w => greatest_any u x w hh hx
  have rD : ∀ w, (binOp .sub 22 (.float .f64 x) (.float .f64 s)).run Try.prog w = .ok (.float .f64 D) w := fun w => run_float_arith w .sub 22 .f64 x s D hD
  have rE : ∀ w, (binOp .mul 22 (.float .f64 D) (.float .f64 4593671619917905920)).run Try.prog w = .ok (.float .f64 E) w := fun w => run_float_arith w .mul 22 .f64 D PART E hE
  have rS : ∀ w, (binOp .add 22 (.float .f64 s) (.float .f64 E)).run Try.prog w = .ok (.float .f64 T) w := fun w => run_float_arith w .add 22 .f64 s E T hS
  clear hD hE hS hl hh hx hT hcx
  cases hT : cntB T
  all_goals
    rw [hT] at h2
    clear hT
    go_enter Try.func23, Try.ntmps23
    go_wp2_with (go_at_call 15; refine (h1 _).mono ?_; rintro e w' ⟨rfl, rfl⟩)
    go_region_with (first | (go_at_call 18; refine (h3 _).mono ?_; rintro e w' ⟨rfl, rfl⟩) | (go_at_call 20; refine (h4 _).mono ?_; rintro e w' ⟨rfl, rfl⟩))
  all_goals clear h3 h4 h1
  all_goals go_wp2_with (go_at_call 15; refine (h2 _).mono ?_; rintro e w' ⟨rfl, rfl⟩)
  all_goals first | refine bodyPost_ret (v := .agg #[.int .u64 (c + 1), .int .u64 d, .float .f64 (least l x), .float .f64 (greatest u x), .float .f64 x]) (by simp [results, Try.results23, go_sem]; done) rfl ⟨rfl, ?_⟩ | refine bodyPost_ret (v := .agg #[.int .u64 (c + 1), .int .u64 d, .float .f64 (least l x), .float .f64 (greatest u x), .float .f64 T]) (by simp [results, Try.results23, go_sem]; done) rfl ⟨rfl, ?_⟩
  all_goals repeat (first | exact Fresh.refl _ | apply Fresh.drew | apply Fresh.alloc)

set_option maxHeartbeats 1000000 in
theorem note_first (c d l u s x : Nat) (w : World) (hx : U64 x) (hcx : cntB x = true) (hc : c = 0) :
    Calls Try.prog 23 #[.agg #[.int .u64 c, .int .u64 d, .float .f64 l, .float .f64 u, .float .f64 s], .float .f64 x] w fun e w' => e = .returned (.agg #[.int .u64 1, .int .u64 d, .float .f64 x, .float .f64 x, .float .f64 x]) ∧ Fresh w w' := by
  subst hc
  have h1 := fun w => counts_any x w hx
  rw [hcx] at h1
  clear hx hcx
  go_enter Try.func23, Try.ntmps23
  go_wp2_with (go_at_call 15; refine (h1 _).mono ?_; rintro e w' ⟨rfl, rfl⟩)
  refine bodyPost_ret (v := .agg #[.int .u64 1, .int .u64 d, .float .f64 x, .float .f64 x, .float .f64 x]) (by simp [results, Try.results23, go_sem]; done) rfl ⟨rfl, ?_⟩
  repeat (first | exact Fresh.refl _ | apply Fresh.drew | apply Fresh.alloc)

set_option maxHeartbeats 1000000 in
theorem note_bad (c d l u s x : Nat) (w : World) (hx : U64 x) (hcx : cntB x = false) (hd : d < 1000) :
    Calls Try.prog 23 #[.agg #[.int .u64 c, .int .u64 d, .float .f64 l, .float .f64 u, .float .f64 s], .float .f64 x] w fun e w' => e = .returned (.agg #[.int .u64 c, .int .u64 (d + 1), .float .f64 l, .float .f64 u, .float .f64 s]) ∧ Fresh w w' := by
  have h1 := fun w => counts_any x w hx
  rw [hcx] at h1
  clear hx hcx
  go_enter Try.func23, Try.ntmps23
  go_wp2_with (go_at_call 15; refine (h1 _).mono ?_; rintro e w' ⟨rfl, rfl⟩)
  refine bodyPost_ret (v := .agg #[.int .u64 c, .int .u64 (d + 1), .float .f64 l, .float .f64 u, .float .f64 s]) (by simp [results, Try.results23, go_sem]; done) rfl ⟨rfl, ?_⟩
  repeat (first | exact Fresh.refl _ | apply Fresh.drew | apply Fresh.alloc)

end Go.Proofs.Ytnmadkallkoadaa
