/-
  Plain facts on the arithmetic of binary floating point: sums, an eighth, and what lies between.
-/
import Derived.Test.YtnmadkallkoadaaMath
import Derived.Laws.FloatBits
namespace Go.GMath
open Ieee

def PART : Nat := 4593671619917905920
def EIGHT : Nat := 4620693217682128896

theorem INF_lt_SW : INF < SW := by decide
theorem word_mod (s : Bool) {r : Nat} (h : r ≤ INF) : double.word s r % SW = r := by
  have := INF_lt_SW
  rw [word_eq]
  cases s
  · simp only [Bool.false_eq_true, if_false]; exact Nat.mod_eq_of_lt (by omega)
  · simp only [if_true]; rw [Nat.add_mod_left]; exact Nat.mod_eq_of_lt (by omega)
theorem word_neg (s : Bool) {r : Nat} (h : r ≤ INF) : neg (double.word s r) = s := by
  have := INF_lt_SW
  have h0 : 0 < SW := by decide
  unfold neg
  rw [word_eq]
  cases s
  · simp only [Bool.false_eq_true, if_false]
    rw [Nat.div_eq_of_lt (by omega)]; rfl
  · simp only [if_true]
    rw [Nat.add_div_left _ h0, Nat.div_eq_of_lt (by omega)]; rfl
theorem word_U64 (s : Bool) {r : Nat} (h : r ≤ INF) : U64 (double.word s r) := by
  have := INF_lt_SW
  have := SW2
  unfold U64
  rw [word_eq]
  split <;> omega
theorem V_word (s : Bool) {r : Nat} (h : r ≤ INF) : V (double.word s r) = if s then -((val r : Nat) : Int) else ((val r : Nat) : Int) := by
  rw [V_eq, word_neg s h, word_mod s h]

theorem opposite_read {x : Nat} (s m e) (h : double.read x = .number s m e) : (double.read x).opposite = .number (!s) m e := by rw [h]; rfl

/-- the sum of two numbers -/
def wsum (t : Int) (z : Bool) : Nat := double.word (if t = 0 then z else decide (t < 0)) (Rq t.natAbs 0)

theorem signed_V (s : Bool) (m e : Nat) : signed s m e = if s then -((m <<< e : Nat) : Int) else ((m <<< e : Nat) : Int) := rfl
theorem signed_neg (s : Bool) (m e : Nat) : signed (!s) m e = - signed s m e := by
  unfold signed; cases s <;> simp

theorem sum_write {s t : Bool} {m n e f : Nat} :
    (Datum.sum (.number s m (double.leastPlace + (e : Int))) (.number t n (double.leastPlace + (f : Int)))).map double.write = some (wsum (signed s m e + signed t n f) (s && t)) := by
  simp only [Datum.sum, Option.map_some, Format.write]
  congr 1
  generalize hb : min (double.leastPlace + (e : Int)) (double.leastPlace + (f : Int)) = base
  have hbase : base = double.leastPlace + ((min e f : Nat) : Int) := by omega
  rw [hbase]
  have e1 : (double.leastPlace + (e : Int) - (double.leastPlace + ((min e f : Nat) : Int))).toNat = e - min e f := by omega
  have e2 : (double.leastPlace + (f : Int) - (double.leastPlace + ((min e f : Nat) : Int))).toNat = f - min e f := by omega
  rw [e1, e2]
  generalize hk : min e f = k
  have h1 : signed s m e = signed s m (e - k) * ((2 ^ k : Nat) : Int) := by rw [← signed_shift]; congr 1; omega
  have h2 : signed t n f = signed t n (f - k) * ((2 ^ k : Nat) : Int) := by rw [← signed_shift]; congr 1; omega
  rw [h1, h2, ← Int.add_mul]
  generalize signed s m (e - k) + signed t n (f - k) = T
  have hp : (0 : Int) < ((2 ^ k : Nat) : Int) := by have := Nat.two_pow_pos k; omega
  rw [nearest_eq _ _ _ k 0 (by omega)]
  unfold wsum
  have e3 : (T * ((2 ^ k : Nat) : Int)).natAbs = T.natAbs <<< k := by rw [Int.natAbs_mul, Int.natAbs_natCast, Nat.shiftLeft_eq]
  have e4 : (T * ((2 ^ k : Nat) : Int) = 0) ↔ T = 0 := by
    constructor
    · intro h; rcases Int.mul_eq_zero.1 h with h | h
      · exact h
      · omega
    · intro h; rw [h, Int.zero_mul]
  have e5 : (T * ((2 ^ k : Nat) : Int) < 0) ↔ T < 0 := by
    constructor
    · intro h
      rcases Int.lt_or_le T 0 with h' | h'
      · exact h'
      · have := Int.mul_nonneg h' (Int.le_of_lt hp); omega
    · intro h; exact Int.mul_neg_of_neg_of_pos h hp
  rw [e3]
  congr 1
  by_cases h0 : T = 0
  · rw [if_pos h0, if_pos (e4.2 h0)]
  · rw [if_neg h0, if_neg (fun h => h0 (e4.1 h)), decide_eq_decide.2 e5]

theorem add_fin {x y : Nat} (hx : x % SW < INF) (hy : y % SW < INF) : double.add x y = some (wsum (V x + V y) (neg x && neg y)) := by
  obtain ⟨m, e, h1, h2, _⟩ := read_fin hx
  obtain ⟨n, f, h3, h4, _⟩ := read_fin hy
  unfold Format.add
  rw [h1, h3, sum_write, V_eq, V_eq, signed_V, signed_V, h2, h4]
theorem sub_fin {x y : Nat} (hx : x % SW < INF) (hy : y % SW < INF) : double.sub x y = some (wsum (V x - V y) (neg x && !neg y)) := by
  obtain ⟨m, e, h1, h2, _⟩ := read_fin hx
  obtain ⟨n, f, h3, h4, _⟩ := read_fin hy
  unfold Format.sub
  rw [h1, opposite_read _ _ _ h3, sum_write, V_eq, V_eq, signed_neg, signed_V, signed_V, h2, h4, Int.sub_eq_add_neg]
theorem add_inf {x y : Nat} (hx : x % SW < INF) (hy : y % SW = INF) : double.add x y = some (double.word (neg y) INF) := by
  obtain ⟨m, e, h1, h2, _⟩ := read_fin hx
  unfold Format.add
  rw [h1, read_inf hy]
  simp only [Datum.sum, Option.map_some, Format.write, infRung_eq]

/-- an eighth -/
def weighth (x : Nat) : Nat := if x % SW < INF then double.word (neg x) (Rq (val (x % SW)) 3) else double.word (neg x) INF

theorem read_part : double.read PART = .number false BIN (-55) := by decide +kernel
theorem read_eight : double.read EIGHT = .number false BIN (-49) := by decide +kernel
theorem BIN_pow : BIN = 2 ^ 52 := by decide

theorem mul_part {x : Nat} (hx : x % SW ≤ INF) : double.mul x PART = some (weighth x) := by
  unfold Format.mul weighth
  rw [read_part]
  rcases Nat.lt_or_eq_of_le hx with hx | hx
  · obtain ⟨m, e, h1, h2, _⟩ := read_fin hx
    rw [h1, if_pos hx]
    simp only [Datum.product, Option.map_some, Format.write, Bool.xor_false]
    rw [nearest_eq (neg x) (m * BIN) (double.leastPlace + (e : Int) + -55) e 55 (by omega)]
    congr 2
    have e1 : (m * BIN) <<< e = (m <<< e) <<< 52 := by
      rw [BIN_pow, Nat.shiftLeft_eq, Nat.shiftLeft_eq, Nat.shiftLeft_eq, Nat.mul_right_comm]
    rw [e1, show 55 = 3 + 52 by rfl, Rq_scale, h2]
  · rw [read_inf hx, if_neg (by omega)]
    simp only [Datum.product]
    rw [if_neg (by decide)]
    simp only [Option.map_some, Format.write, Bool.xor_false, infRung_eq]

theorem fb : double.fractionBits + 2 = 54 := rfl
theorem bin_log2 : BIN.log2 = 52 := by decide +kernel

theorem div_eight {x : Nat} (hx : x % SW ≤ INF) : double.div x EIGHT = some (weighth x) := by
  unfold Format.div weighth
  rw [read_eight, fb]
  rcases Nat.lt_or_eq_of_le hx with hx | hx
  · obtain ⟨m, e, h1, h2, h3⟩ := read_fin hx
    rw [h1, if_pos hx]
    simp only [Datum.quotient]
    rw [if_neg (show ¬ BIN = 0 by decide), bin_log2]
    have hl : m.log2 ≤ 53 := by
      by_cases hm : m = 0
      · subst hm; decide
      · have : m.log2 < 54 := (Nat.log2_lt hm).2 (Nat.lt_of_lt_of_le h3 (by decide))
        omega
    generalize hmore : 54 + 52 - m.log2 = more
    have hge : 53 ≤ more := by omega
    have hB0 : 0 < BIN := by decide
    have e1 : m <<< more = (m <<< (more - 52)) * BIN := by
      rw [BIN_pow, Nat.shiftLeft_eq, Nat.shiftLeft_eq, Nat.mul_assoc, ← Nat.pow_add]; congr 2; omega
    rw [e1, Nat.mul_div_cancel _ hB0, Nat.mul_mod_left]
    simp only [Option.map_some, Format.write, Bool.xor_false, bne_self_eq_false, Bool.toNat_false, Nat.add_zero]
    have e2 : 2 * (m <<< (more - 52)) = m <<< (more - 51) := by
      rw [Nat.shiftLeft_eq, Nat.shiftLeft_eq, Nat.mul_left_comm, show more - 51 = (more - 52) + 1 by omega, Nat.pow_succ, Nat.mul_comm 2]
    rw [e2, nearest_eq (neg x) _ _ e (3 + (more - 51)) (by omega)]
    congr 2
    have e3 : (m <<< (more - 51)) <<< e = (m <<< e) <<< (more - 51) := by
      rw [← Nat.shiftLeft_add, ← Nat.shiftLeft_add, Nat.add_comm]
    rw [e3, Rq_scale, h2]
  · rw [read_inf hx, if_neg (by omega)]
    simp only [Datum.quotient, Option.map_some, Format.write, Bool.xor_false, infRung_eq]

/-! ### what lies between -/
theorem pow_rung {L : Nat} (h : L ≤ 2098) : ∃ r, r ≤ INF ∧ val r = 2 ^ L := by
  by_cases h1 : L < 52
  · have h2 : 2 ^ L < BIN := by rw [BIN_pow]; exact Nat.pow_lt_pow_right (by omega) h1
    refine ⟨2 ^ L, ?_, ?_⟩
    · have : BIN < INF := by decide
      omega
    · unfold val; rw [if_pos h2]
  · have hB0 : 0 < BIN := by decide
    refine ⟨(L - 51) * BIN, ?_, ?_⟩
    · have e : INF = 2047 * BIN := by decide
      rw [e]; exact Nat.mul_le_mul_right _ (by omega)
    · unfold val
      have h3 : ¬ (L - 51) * BIN < BIN := by
        have : 1 * BIN ≤ (L - 51) * BIN := Nat.mul_le_mul_right _ (by omega)
        omega
      rw [if_neg h3, Nat.mul_mod_left, Nat.mul_div_cancel _ hB0, Nat.add_zero, Nat.shiftLeft_eq, BIN_pow, ← Nat.pow_add]
      congr 1; omega

theorem Rq_le_of {n k r : Nat} (hr : r ≤ INF) (h : n ≤ val r * 2 ^ k) : Rq n k ≤ r := by
  have h1 := Rq_mono (k := k) h
  have h2 := Rq_scale (val r) 0 k
  rw [Nat.zero_add, Nat.shiftLeft_eq, Rq_val hr] at h2
  omega
theorem le_Rq_of {n r : Nat} (hr : r ≤ INF) (h : val r ≤ n) : r ≤ Rq n 0 := by
  have h1 := Rq_mono (k := 0) h
  rwa [Rq_val hr] at h1

theorem val_top {B k n : Nat} (hB : B = 2 ^ 52) (hn : 52 + (k - 1) = n) : (B + k * B % B) <<< (k * B / B - 1) = 2 ^ n := by
  have hB0 : 0 < B := by rw [hB]; exact Nat.two_pow_pos _
  rw [Nat.mul_mod_left, Nat.mul_div_cancel _ hB0, Nat.add_zero, Nat.shiftLeft_eq, ← hn, Nat.pow_add, hB]
theorem val_INF {n : Nat} (hn : n = 2098) : val INF = 2 ^ n := by
  have e : INF = 2047 * BIN := by decide
  have h1 : ¬ 2047 * BIN < BIN := by decide
  have h2 : val (2047 * BIN) = (BIN + 2047 * BIN % BIN) <<< (2047 * BIN / BIN - 1) := if_neg h1
  rw [e, h2]
  exact val_top BIN_pow (by omega)

theorem eighth_le {E : Nat} (hr : Rq E 0 < INF) : val (Rq (val (Rq E 0)) 3) ≤ E := by
  by_cases h0 : E = 0
  · subst h0
    have e1 : Rq 0 0 = 0 := rfl
    have e2 : Rq 0 3 = 0 := rfl
    rw [e1, val_zero, e2, val_zero]
    exact Nat.le_refl _
  · obtain ⟨N, hN⟩ : ∃ N : Nat, N = 2098 := ⟨_, rfl⟩
    have hE : E < val INF := by
      rcases Nat.lt_or_ge E (val INF) with h | h
      · exact h
      · have := le_Rq_of (Nat.le_refl _) h
        omega
    rw [val_INF hN] at hE
    have hL : E.log2 < N := (Nat.log2_lt h0).2 hE
    obtain ⟨r, hr1, hr2⟩ := pow_rung (L := E.log2) (by omega)
    obtain ⟨r', hr1', hr2'⟩ := pow_rung (L := E.log2 + 1) (by omega)
    have a1 : 2 ^ E.log2 ≤ E := Nat.log2_self_le h0
    have a2 : E < 2 ^ (E.log2 + 1) := Nat.lt_log2_self
    have d1 : Rq E 0 ≤ r' := Rq_le_of hr1' (by rw [hr2', Nat.pow_zero]; omega)
    have d2 : val (Rq E 0) ≤ 2 ^ (E.log2 + 1) := by rw [← hr2']; exact val_le d1
    have d3 : Rq (val (Rq E 0)) 3 ≤ r := Rq_le_of hr1 (by rw [hr2, ← Nat.pow_add]; exact Nat.le_trans d2 (Nat.pow_le_pow_right (by omega) (by omega)))
    have d4 := val_le d3
    rw [hr2] at d4
    omega

theorem V_wsum (t : Int) (z : Bool) : V (wsum t z) = if t < 0 then -((val (Rq t.natAbs 0) : Nat) : Int) else ((val (Rq t.natAbs 0) : Nat) : Int) := by
  unfold wsum
  rw [V_word _ (Rq_le _ _)]
  by_cases h0 : t = 0
  · subst h0
    have e : Rq 0 0 = 0 := rfl
    simp only [Int.natAbs_zero, e, val_zero]
    split <;> simp
  · rw [if_neg h0]
    by_cases h1 : t < 0 <;> simp [h1]

theorem wsum_between {t : Int} {z : Bool} {a b : Nat} (ha : a % SW ≤ INF) (hb : b % SW ≤ INF) (h1 : V a ≤ t) (h2 : t ≤ V b) : V a ≤ V (wsum t z) ∧ V (wsum t z) ≤ V b := by
  rw [V_wsum]
  by_cases h : t < 0
  · rw [if_pos h]
    have hva : V a < 0 := by omega
    rw [V_eq] at hva h1 ⊢
    have hna : neg a = true := by
      cases hn : neg a
      · rw [hn] at hva; simp at hva; omega
      · rfl
    rw [hna] at h1 ⊢
    simp only [if_true] at h1 ⊢
    have k1 : Rq t.natAbs 0 ≤ a % SW := Rq_le_of ha (by rw [Nat.pow_zero]; omega)
    have k2 := val_le k1
    refine ⟨by omega, ?_⟩
    rw [V_eq] at h2 ⊢
    by_cases hnb : neg b = true
    · rw [if_pos hnb] at h2 ⊢
      have k3 : b % SW ≤ Rq t.natAbs 0 := le_Rq_of hb (by omega)
      have k4 := val_le k3
      omega
    · rw [if_neg hnb]; omega
  · rw [if_neg h]
    have hvb : 0 ≤ V b := by omega
    have e : t.natAbs = t.toNat := by omega
    constructor
    · rw [V_eq] at h1 ⊢
      by_cases hna : neg a = true
      · rw [if_pos hna]; omega
      · rw [if_neg hna] at h1 ⊢
        have k3 : a % SW ≤ Rq t.natAbs 0 := le_Rq_of ha (by omega)
        have k4 := val_le k3
        omega
    · rw [V_eq] at h2 hvb ⊢
      by_cases hnb : neg b = true
      · rw [if_pos hnb] at h2 ⊢
        have : t = 0 := by omega
        subst this
        have e : Rq 0 0 = 0 := rfl
        simp only [Int.natAbs_zero, e, val_zero]
        omega
      · rw [if_neg hnb] at h2 ⊢
        have k1 : Rq t.natAbs 0 ≤ b % SW := Rq_le_of hb (by rw [Nat.pow_zero]; omega)
        have k2 := val_le k1
        omega

theorem wsum_mod (t : Int) (z : Bool) : wsum t z % SW = Rq t.natAbs 0 := word_mod _ (Rq_le _ _)
theorem wsum_U64 (t : Int) (z : Bool) : U64 (wsum t z) := word_U64 _ (Rq_le _ _)
theorem wsum_neg (t : Int) (z : Bool) : neg (wsum t z) = if t = 0 then z else decide (t < 0) := word_neg _ (Rq_le _ _)

/-- what a gauge goes on to -/
def dif (x s : Nat) : Nat := wsum (V x - V s) (neg x && !neg s)
def nxt (s x : Nat) : Nat := if dif x s % SW < INF then wsum (V s + V (weighth (dif x s))) (neg s && neg (weighth (dif x s))) else double.word (neg (dif x s)) INF

theorem dif_mod (x s : Nat) : dif x s % SW ≤ INF := by unfold dif; rw [wsum_mod]; exact Rq_le _ _
theorem sub_dif {x s : Nat} (hx : cntB x = true) (hs : cntB s = true) : double.sub x s = some (dif x s) :=
  sub_fin (of_decide_eq_true hx) (of_decide_eq_true hs)
theorem weighth_fin {d : Nat} (h : d % SW < INF) : weighth d % SW < INF := by
  unfold weighth
  rw [if_pos h, word_mod _ (Rq_le _ _)]
  have : Rq (val (d % SW)) 3 ≤ d % SW := Rq_le_of (Nat.le_of_lt h) (Nat.le_mul_of_pos_right _ (by decide))
  omega
theorem add_nxt {x s : Nat} (hs : cntB s = true) : double.add s (weighth (dif x s)) = some (nxt s x) := by
  have hs' : s % SW < INF := of_decide_eq_true hs
  unfold nxt
  by_cases h : dif x s % SW < INF
  · rw [if_pos h]; exact add_fin hs' (weighth_fin h)
  · rw [if_neg h]
    have hm := dif_mod x s
    have e : weighth (dif x s) = double.word (neg (dif x s)) INF := by unfold weighth; rw [if_neg h]
    rw [e, add_inf hs' (word_mod _ (Nat.le_refl _)), word_neg _ (Nat.le_refl _)]
theorem nxt_U64 (s x : Nat) : U64 (nxt s x) := by
  unfold nxt; split
  · exact wsum_U64 _ _
  · exact word_U64 _ (Nat.le_refl _)
theorem nxt_inf {s x : Nat} (h : cntB (nxt s x) = true) : dif x s % SW < INF := by
  by_cases h' : dif x s % SW < INF
  · exact h'
  · unfold nxt at h
    rw [if_neg h'] at h
    have := of_decide_eq_true h
    rw [word_mod _ (Nat.le_refl _)] at this
    omega

/-- the next one lies between -/
theorem nxt_between {s x : Nat} (hs : cntB s = true) (hx : cntB x = true) (h : cntB (nxt s x) = true) :
    (V s ≤ V (nxt s x) ∧ V (nxt s x) ≤ V x) ∨ (V x ≤ V (nxt s x) ∧ V (nxt s x) ≤ V s) := by
  have hd := nxt_inf h
  have hs' : s % SW < INF := of_decide_eq_true hs
  have hx' : x % SW < INF := of_decide_eq_true hx
  have e : nxt s x = wsum (V s + V (weighth (dif x s))) (neg s && neg (weighth (dif x s))) := by unfold nxt; rw [if_pos hd]
  have hdm : dif x s % SW = Rq (V x - V s).natAbs 0 := by unfold dif; rw [wsum_mod]
  have hw : V (weighth (dif x s)) = if neg (dif x s) then -((val (Rq (val (dif x s % SW)) 3) : Nat) : Int) else ((val (Rq (val (dif x s % SW)) 3) : Nat) : Int) := by
    unfold weighth; rw [if_pos hd, V_word _ (Rq_le _ _)]
  rw [hdm] at hd hw
  have hP := eighth_le hd
  have hn : neg (dif x s) = if V x - V s = 0 then (neg x && !neg s) else decide (V x - V s < 0) := by unfold dif; rw [wsum_neg]
  generalize hP' : val (Rq (val (Rq (V x - V s).natAbs 0)) 3) = Pv at *
  rcases Int.lt_trichotomy (V x - V s) 0 with hlt | h0 | hgt
  · right
    have e1 : neg (dif x s) = true := by rw [hn, if_neg (by omega)]; simp [hlt]
    rw [e1] at hw
    simp only [if_true] at hw
    rw [e]
    exact wsum_between (Nat.le_of_lt hx') (Nat.le_of_lt hs') (by rw [hw]; omega) (by rw [hw]; omega)
  · left
    have e2 : Pv = 0 := by rw [h0] at hP; simp at hP; exact hP
    subst e2
    have e3 : V (weighth (dif x s)) = 0 := by rw [hw]; split <;> simp
    rw [e]
    exact wsum_between (Nat.le_of_lt hs') (Nat.le_of_lt hx') (by rw [e3]; omega) (by rw [e3]; omega)
  · left
    have e1 : neg (dif x s) = false := by rw [hn, if_neg (by omega)]; simp; omega
    rw [e1] at hw
    simp only [Bool.false_eq_true, if_false] at hw
    rw [e]
    exact wsum_between (Nat.le_of_lt hs') (Nat.le_of_lt hx') (by rw [hw]; omega) (by rw [hw]; omega)
end Go.GMath
