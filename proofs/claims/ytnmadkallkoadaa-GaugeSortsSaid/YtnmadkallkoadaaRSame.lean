/-
  The contract of Same, of the reference, at lists that are the same.
-/
import Derived.Test.YtnmadkallkoadaaSortD
import Derived.Test.YtnmadkallkoadaaCalls2
import Derived.BigQuiet
namespace Go.Proofs.Ytnmadkallkoadaa
open Go.RowKit Go.GMath
attribute [local go_sem] run25 run40

theorem ord_self (x : Nat) : ord x x = 0 := ord_eq (by omega) (by omega)

set_option maxHeartbeats 2000000 in
theorem rsame_walk (b off b' off' n cap cap' : Nat) (zs : List Nat) (w : World) (hl : zs.length = n) (hn : n ≤ 200) (hz : ∀ x ∈ zs, U64 x)
    (hc : ∀ k, k < n → w.cell? ⟨b, off + k, none⟩ = some (.float .f64 (zs.getD k 0))) (hc' : ∀ k, k < n → w.cell? ⟨b', off' + k, none⟩ = some (.float .f64 (zs.getD k 0))) :
    Calls Try.prog 30 #[.slice (some ⟨b, off, none⟩) n cap, .slice (some ⟨b', off', none⟩) n cap'] w fun e w' => e = .returned (.bool true) ∧ Below w.heap.size w w' := by
  have HZ : Hid (∀ k, k < n → U64 (zs.getD k 0)) := fun k hk => hz _ (mem_getD (by omega))
  have HC : Hid (∀ k, k < n → w.cell? ⟨b, off + k, none⟩ = some (.float .f64 (zs.getD k 0))) := hc
  have HC' : Hid (∀ k, k < n → w.cell? ⟨b', off' + k, none⟩ = some (.float .f64 (zs.getD k 0))) := hc'
  clear hz hc hc' hl
  go_enter Try.func30, Try.ntmps30
  go_wp2
  go_loopw [5] (fun i wr => ∃ k : Nat, k ≤ n ∧ i = .int .i64 k ∧ ∃ q, wr = w.drewN q) (fun i _ => n - (intOf i).toNat)
  case atStart => exact ⟨0, by omega, rfl, 0, rfl⟩
  case round =>
    obtain ⟨k, hk, rfl, q, rfl⟩ := hrel
    by_cases hlt : k < n
    · have hx : w.cell? ⟨b, off + k, none⟩ = some (.float .f64 (zs.getD k 0)) := HC.out k hlt
      have hy : w.cell? ⟨b', off' + k, none⟩ = some (.float .f64 (zs.getD k 0)) := HC'.out k hlt
      have hu := HZ.out k hlt
      have hord := fun w => (rorder_any (zs.getD k 0) (zs.getD k 0) w hu hu).mono fun e w' (h : e = .returned (.int .i64 (ord (zs.getD k 0) (zs.getD k 0))) ∧ w = w') => And.intro h.1 h.2.symm
      rw [ord_self] at hord
      generalize zs.getD k 0 = x at *
      have i1 : (k : Int) < (n : Int) := by omega
      clear hu
      obtain ⟨w1, hw1⟩ : ∃ w1, w1 = w.drewN q := ⟨_, rfl⟩
      have hx1 : w1.cell? ⟨b, off + k, none⟩ = some (.float .f64 x) := by rw [hw1]; exact hx
      have hy1 : w1.cell? ⟨b', off' + k, none⟩ = some (.float .f64 x) := by rw [hw1]; exact hy
      rw [← hw1]
      have HW1 : Hid (w1 = w.drewN q) := hw1
      clear hw1 hx hy
      go_wp2_with fail
      go_quiet (first | (go_at_call 13; refine Calls.quiet_of_same (hord _)))
      go_wp2
      go_roundw
      case rel => exact ⟨k + 1, by omega, by go_num, q + nq, by rw [HW1.out, World.drewN_drewN]⟩
      case measure => simp [intOf]; omega
    · have hkn : k = n := by omega
      subst hkn
      go_wp2
      go_ret
      exact ⟨rfl, rfl, rfl, rfl, Nat.le_refl _, fun _ _ => rfl⟩

set_option maxHeartbeats 1000000 in
theorem rsame_none (o o' : Option Addr) (cap cap' : Nat) (w : World) :
    Calls Try.prog 30 #[.slice o 0 cap, .slice o' 0 cap'] w fun e w' => e = .returned (.bool true) ∧ Below w.heap.size w w' := by
  go_enter Try.func30, Try.ntmps30
  go_wp2
  refine wp_loop_rounds 1 ?_
  rw [rounds_succ]
  go_wp2
  go_ret
  exact ⟨rfl, Below.refl _ _⟩
end Go.Proofs.Ytnmadkallkoadaa
