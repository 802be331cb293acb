/-
  A gauge as a record, and the contracts of both Notes over it.
-/
import Derived.Test.YtnmadkallkoadaaLaws1
namespace Go.Proofs.Ytnmadkallkoadaa
open Go.RowKit Go.GMath

structure G where
  c : Nat
  d : Nat
  l : Nat
  u : Nat
  s : Nat

def G.zero : G := ⟨0, 0, 0, 0, 0⟩
def G.step (g : G) (x : Nat) : G :=
  if cntB x then (if g.c = 0 then ⟨1, g.d, x, x, x⟩ else ⟨g.c + 1, g.d, least g.l x, greatest g.u x, if cntB (nxt g.s x) then nxt g.s x else x⟩) else ⟨g.c, g.d + 1, g.l, g.u, g.s⟩

structure G.OK (g : G) (k : Nat) : Prop where
  sum : g.c + g.d = k
  ul : U64 g.l
  uu : U64 g.u
  us : U64 g.s
  cl : 0 < g.c → cntB g.l = true
  cu : 0 < g.c → cntB g.u = true
  cs : 0 < g.c → cntB g.s = true

theorem zero_ok : G.zero.OK 0 := ⟨rfl, u64 (by decide), u64 (by decide), u64 (by decide), fun h => absurd h (by decide), fun h => absurd h (by decide), fun h => absurd h (by decide)⟩

theorem cnt_num {x : Nat} (h : cntB x = true) : nanB x = false := by
  have h1 : x % SW < INF := of_decide_eq_true h
  unfold nanB
  simp; omega

theorem least_eq {l x : Nat} (cl : cntB l = true) (cx : cntB x = true) : least l x = if ord x l < 0 then x else l := by
  unfold least
  rw [cnt_num cl, cnt_num cx]
  have e : ord x l = - ord l x := by
    rcases Nat.lt_trichotomy (place l) (place x) with h | h | h
    · rw [ord_lt h, ord_gt h]; rfl
    · rw [ord_eq (by omega) (by omega), ord_eq (by omega) (by omega)]; rfl
    · rw [ord_gt h, ord_lt h]
  simp only [Bool.or_false, Bool.false_eq_true, if_false]
  by_cases h0 : ord l x ≤ 0
  · rw [if_pos h0, if_neg (by omega)]
  · rw [if_neg h0, if_pos (by omega)]
theorem greatest_eq {u x : Nat} (cu : cntB u = true) (cx : cntB x = true) : greatest u x = if 0 < ord x u then x else u := by
  unfold greatest
  rw [cnt_num cu, cnt_num cx]
  have e : ord x u = - ord u x := by
    rcases Nat.lt_trichotomy (place u) (place x) with h | h | h
    · rw [ord_lt h, ord_gt h]; rfl
    · rw [ord_eq (by omega) (by omega), ord_eq (by omega) (by omega)]; rfl
    · rw [ord_gt h, ord_lt h]
  simp only [Bool.or_false, Bool.false_eq_true, if_false]
  by_cases h0 : 0 ≤ ord u x
  · rw [if_pos h0, if_neg (by omega)]
  · rw [if_neg h0, if_pos (by omega)]

theorem step_ok {g : G} {k x : Nat} (h : g.OK k) (hx : U64 x) : (g.step x).OK (k + 1) := by
  unfold G.step
  have := h.sum
  cases hc : cntB x
  · simp only [Bool.false_eq_true, if_false]
    exact ⟨by show g.c + (g.d + 1) = k + 1; omega, h.ul, h.uu, h.us, h.cl, h.cu, h.cs⟩
  · simp only [if_true]
    by_cases h0 : g.c = 0
    · rw [if_pos h0]
      exact ⟨by show 1 + g.d = k + 1; omega, hx, hx, hx, fun _ => hc, fun _ => hc, fun _ => hc⟩
    · rw [if_neg h0]
      have hl := h.cl (by omega)
      have hu := h.cu (by omega)
      refine ⟨by show g.c + 1 + g.d = k + 1; omega, least_U64 h.ul hx, greatest_U64 h.uu hx, ?_, fun _ => ?_, fun _ => ?_, fun _ => ?_⟩
      · show U64 (if cntB (nxt g.s x) then nxt g.s x else x)
        split
        · exact nxt_U64 _ _
        · exact hx
      · show cntB (least g.l x) = true
        rw [least_eq hl hc]; split <;> assumption
      · show cntB (greatest g.u x) = true
        rw [greatest_eq hu hc]; split <;> assumption
      · show cntB (if cntB (nxt g.s x) then nxt g.s x else x) = true
        split
        · assumption
        · exact hc

theorem note_any (g : G) (k x : Nat) (w : World) (h : g.OK k) (hk : k < 900) (hx : U64 x) :
    Calls Try.prog 23 #[.agg #[.int .u64 g.c, .int .u64 g.d, .float .f64 g.l, .float .f64 g.u, .float .f64 g.s], .float .f64 x] w
      fun e w' => e = .returned (.agg #[.int .u64 (g.step x).c, .int .u64 (g.step x).d, .float .f64 (g.step x).l, .float .f64 (g.step x).u, .float .f64 (g.step x).s]) ∧ Fresh w w' := by
  have hs := h.sum
  cases hc : cntB x
  · have e : g.step x = ⟨g.c, g.d + 1, g.l, g.u, g.s⟩ := by unfold G.step; rw [hc]; rfl
    rw [e]
    exact note_bad g.c g.d g.l g.u g.s x w hx hc (by omega)
  · by_cases h0 : g.c = 0
    · have e : g.step x = ⟨1, g.d, x, x, x⟩ := by unfold G.step; rw [hc, if_pos rfl, if_pos h0]
      rw [e]
      exact note_first g.c g.d g.l g.u g.s x w hx hc h0
    · have e : g.step x = ⟨g.c + 1, g.d, least g.l x, greatest g.u x, if cntB (nxt g.s x) then nxt g.s x else x⟩ := by unfold G.step; rw [hc, if_pos rfl, if_neg h0]
      rw [e]
      have cs := h.cs (by omega)
      exact note_late g.c g.d g.l g.u g.s x _ _ _ w h.ul h.uu hx (nxt_U64 _ _) hc (by simp; omega) (by omega) (sub_dif hc cs) (mul_part (dif_mod _ _)) (add_nxt cs)
theorem rnote_any (g : G) (k x : Nat) (w : World) (h : g.OK k) (hk : k < 900) (hx : U64 x) :
    Calls Try.prog 24 #[.agg #[.int .u64 g.c, .int .u64 g.d, .float .f64 g.l, .float .f64 g.u, .float .f64 g.s], .float .f64 x] w
      fun e w' => e = .returned (.agg #[.int .u64 (g.step x).c, .int .u64 (g.step x).d, .float .f64 (g.step x).l, .float .f64 (g.step x).u, .float .f64 (g.step x).s]) ∧ Fresh w w' := by
  have hs := h.sum
  cases hc : cntB x
  · have e : g.step x = ⟨g.c, g.d + 1, g.l, g.u, g.s⟩ := by unfold G.step; rw [hc]; rfl
    rw [e]
    exact rnote_bad g.c g.d g.l g.u g.s x w hc (by omega)
  · by_cases h0 : g.c = 0
    · have e : g.step x = ⟨1, g.d, x, x, x⟩ := by unfold G.step; rw [hc, if_pos rfl, if_pos h0]
      rw [e]
      exact rnote_first g.c g.d g.l g.u g.s x w hc h0
    · have cs := h.cs (by omega)
      have e : g.step x = ⟨g.c + 1, g.d, if ord x g.l < 0 then x else g.l, if 0 < ord x g.u then x else g.u, if cntB (nxt g.s x) then nxt g.s x else x⟩ := by
        unfold G.step
        rw [hc, if_pos rfl, if_neg h0, least_eq (h.cl (by omega)) hc, greatest_eq (h.cu (by omega)) hc]
      rw [e]
      exact rnote_late g.c g.d g.l g.u g.s x _ _ _ _ _ w h.ul h.uu hx hc (by simp; omega) (by omega) (sub_dif hc cs) (div_eight (dif_mod _ _)) (add_nxt cs) rfl rfl

theorem Fresh.cell {w w' : World} (h : Fresh w w') {a : Addr} {v : Value} (hc : w.cell? a = some v) : w'.cell? a = some v :=
  (h.2.cell (World.block_lt_of_cell? w a hc)).trans hc
theorem Fresh.frozen {w w' : World} (h : Fresh w w') (a : Addr) : w'.frozen? a = w.frozen? a := h.1.2.1 a
end Go.Proofs.Ytnmadkallkoadaa
