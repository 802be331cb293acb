/-
  Three feeds side by side.
-/
import Derived.Test.YtdljloohgidbfaaGapsW
namespace Go.Proofs.Ytdljloohgidbfaa
open Go Go.RowKit Go.Mem Go.Args

structure Tri (w W Wb : World) (prot : Nat → Prop) (pa p1 p2 : Value) (Fa F1 F2 : Nat × List AR) (SA S1 S2 : Nat → Prop) : Prop where
  a : IsFeed W pa Fa SA
  one : IsFeed W p1 F1 S1
  two : IsFeed W p2 F2 S2
  d1 : ∀ k, SA k → ¬ S1 k
  d2 : ∀ k, SA k → ¬ S2 k
  d3 : ∀ k, S1 k → ¬ S2 k
  new : ∀ k, SA k ∨ S1 k ∨ S2 k → w.heap.size ≤ k
  chg : Chg (fun _ => False) w W
  kept : ∀ k, prot k → ¬ SA k ∧ ¬ S1 k ∧ ¬ S2 k ∧ k < W.heap.size ∧ W.heap[k]? = Wb.heap[k]?

variable {w W W' Wb : World} {prot : Nat → Prop} {pa p1 p2 : Value} {Fa F1 F2 : Nat × List AR} {SA S1 S2 : Nat → Prop}

theorem Tri.stepA (h : Tri w W Wb prot pa p1 p2 Fa F1 F2 SA S1 S2) {F : Nat × List AR} {S : Nat → Prop} (h1 : IsFeed W' pa F S) (h2 : ∀ k, S k → SA k ∨ W.heap.size ≤ k) (h3 : Chg SA W W') : Tri w W' Wb prot pa p1 p2 F F1 F2 S S1 S2 := by
  refine ⟨h1, h.one.keep h3 fun k hk hk' => h.d1 k hk' hk, h.two.keep h3 fun k hk hk' => h.d2 k hk' hk, fun k hk h' => ?_, fun k hk h' => ?_, h.d3, fun k hk => ?_, h.chg.trans (h3.mono fun k _ hk => .inr (h.new k (.inl hk))), fun k hk => ?_⟩
  · rcases h2 k hk with h4 | h4
    · exact h.d1 k h4 h'
    · have := h.one.lt h'; omega
  · rcases h2 k hk with h4 | h4
    · exact h.d2 k h4 h'
    · have := h.two.lt h'; omega
  · rcases hk with hk | hk
    · rcases h2 k hk with h4 | h4
      · exact h.new k (.inl h4)
      · exact Nat.le_trans h.chg.size h4
    · exact h.new k (.inr hk)
  · obtain ⟨k1, k2, k3, k4, k5⟩ := h.kept k hk
    exact ⟨fun h' => by rcases h2 k h' with h4 | h4; exact k1 h4; omega, k2, k3, Nat.lt_of_lt_of_le k4 h3.size, (h3.block k k4 k1).trans k5⟩
theorem Tri.step1 (h : Tri w W Wb prot pa p1 p2 Fa F1 F2 SA S1 S2) {F : Nat × List AR} {S : Nat → Prop} (h1 : IsFeed W' p1 F S) (h2 : ∀ k, S k → S1 k ∨ W.heap.size ≤ k) (h3 : Chg S1 W W') : Tri w W' Wb prot pa p1 p2 Fa F F2 SA S S2 := by
  refine ⟨h.a.keep h3 h.d1, h1, h.two.keep h3 fun k hk hk' => h.d3 k hk' hk, fun k hk h' => ?_, h.d2, fun k hk h' => ?_, fun k hk => ?_, h.chg.trans (h3.mono fun k _ hk => .inr (h.new k (.inr (.inl hk)))), fun k hk => ?_⟩
  · rcases h2 k h' with h4 | h4
    · exact h.d1 k hk h4
    · have := h.a.lt hk; omega
  · rcases h2 k hk with h4 | h4
    · exact h.d3 k h4 h'
    · have := h.two.lt h'; omega
  · rcases hk with hk | hk | hk
    · exact h.new k (.inl hk)
    · rcases h2 k hk with h4 | h4
      · exact h.new k (.inr (.inl h4))
      · exact Nat.le_trans h.chg.size h4
    · exact h.new k (.inr (.inr hk))
  · obtain ⟨k1, k2, k3, k4, k5⟩ := h.kept k hk
    exact ⟨k1, fun h' => by rcases h2 k h' with h4 | h4; exact k2 h4; omega, k3, Nat.lt_of_lt_of_le k4 h3.size, (h3.block k k4 k2).trans k5⟩
theorem Tri.step2 (h : Tri w W Wb prot pa p1 p2 Fa F1 F2 SA S1 S2) {F : Nat × List AR} {S : Nat → Prop} (h1 : IsFeed W' p2 F S) (h2 : ∀ k, S k → S2 k ∨ W.heap.size ≤ k) (h3 : Chg S2 W W') : Tri w W' Wb prot pa p1 p2 Fa F1 F SA S1 S := by
  refine ⟨h.a.keep h3 h.d2, h.one.keep h3 h.d3, h1, h.d1, fun k hk h' => ?_, fun k hk h' => ?_, fun k hk => ?_, h.chg.trans (h3.mono fun k _ hk => .inr (h.new k (.inr (.inr hk)))), fun k hk => ?_⟩
  · rcases h2 k h' with h4 | h4
    · exact h.d2 k hk h4
    · have := h.a.lt hk; omega
  · rcases h2 k h' with h4 | h4
    · exact h.d3 k hk h4
    · have := h.one.lt hk; omega
  · rcases hk with hk | hk | hk
    · exact h.new k (.inl hk)
    · exact h.new k (.inr (.inl hk))
    · rcases h2 k hk with h4 | h4
      · exact h.new k (.inr (.inr h4))
      · exact Nat.le_trans h.chg.size h4
  · obtain ⟨k1, k2, k3, k4, k5⟩ := h.kept k hk
    exact ⟨k1, k2, fun h' => by rcases h2 k h' with h4 | h4; exact k3 h4; omega, Nat.lt_of_lt_of_le k4 h3.size, (h3.block k k4 k3).trans k5⟩
/-- nothing of theirs -/
theorem Tri.stepN (h : Tri w W Wb prot pa p1 p2 Fa F1 F2 SA S1 S2) (h3 : Chg (fun _ => False) W W') : Tri w W' Wb prot pa p1 p2 Fa F1 F2 SA S1 S2 :=
  ⟨h.a.keep h3 fun _ _ h => h, h.one.keep h3 fun _ _ h => h, h.two.keep h3 fun _ _ h => h, h.d1, h.d2, h.d3, h.new, h.chg.trans (h3.mono fun _ _ h => h.elim), fun k hk => by
    obtain ⟨k1, k2, k3, k4, k5⟩ := h.kept k hk
    exact ⟨k1, k2, k3, Nat.lt_of_lt_of_le k4 h3.size, (h3.block k k4 id).trans k5⟩⟩
/-- other blocks are kept from here on: such as a world ahead did not have yet, when they had theirs -/
theorem Tri.guard (h : Tri w W Wb prot pa p1 p2 Fa F1 F2 SA S1 S2) {pr : Nat → Prop} {W0 : World} (h0 : Tri w W0 Wb prot pa p1 p2 Fa F1 F2 SA S1 S2) (hp : ∀ k, pr k → (W0.heap.size ≤ k ∧ k < W.heap.size) ∨ prot k) : Tri w W W pr pa p1 p2 Fa F1 F2 SA S1 S2 :=
  ⟨h.a, h.one, h.two, h.d1, h.d2, h.d3, h.new, h.chg, fun k hk => by
    rcases hp k hk with ⟨h1, h2⟩ | h1
    · exact ⟨fun h' => by have := h0.a.lt h'; omega, fun h' => by have := h0.one.lt h'; omega, fun h' => by have := h0.two.lt h'; omega, h2, rfl⟩
    · obtain ⟨k1, k2, k3, k4, _⟩ := h.kept k h1
      exact ⟨k1, k2, k3, k4, rfl⟩⟩

/-- what holds at the head of a round -/
def ApartI (w : World) (pa p1 p2 : Value) (n k x : Nat) (wr : World) : Prop :=
  ∃ (qa qb : List It × Nat) (SA S1 S2 : Nat → Prop), k ≤ n ∧ k ≤ 100 ∧ x ≤ 1 + 40 * k ∧ qa.2 ≤ 40 * k ∧ qb.2 ≤ 40 * k ∧ qa.1.length ≤ 16 ∧ qb.1.length ≤ 16 ∧
    Tri w wr wr (fun _ => False) pa p1 p2 (2, [(1, qa), (2, qb)]) (1, [(1, qa)]) (1, [(1, qb)]) SA S1 S2
end Go.Proofs.Ytdljloohgidbfaa
