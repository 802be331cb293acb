/-
  Plain facts on binary floating point: order by bits, and rounding.
-/
import Ieee.Arith
import Derived.WalkKit
namespace Go.GMath
open Ieee

/-- The weight of the sign. -/
def SW : Nat := 9223372036854775808
/-- The rung of infinity. -/
def INF : Nat := 9218868437227405312
def BIN : Nat := 4503599627370496

theorem signWeight_eq : double.signWeight = SW := by decide +kernel
theorem binade_eq : double.binade = BIN := by decide +kernel
theorem infRung_eq : double.infRung = INF := by decide +kernel

/-- the magnitude of a rung, in units of the least place -/
def val (r : Nat) : Nat := if r < BIN then r else (BIN + r % BIN) <<< (r / BIN - 1)

/-- signed rung -/
def K (x : Nat) : Int := if x / SW % 2 == 1 then -((x % SW : Nat) : Int) else ((x % SW : Nat) : Int)
/-- signed value in units -/
def V (x : Nat) : Int := if x / SW % 2 == 1 then -((val (x % SW) : Nat) : Int) else ((val (x % SW) : Nat) : Int)

theorem val_lt_succ (r : Nat) : val r < val (r + 1) := by
  unfold val
  have hB : 0 < BIN := by decide
  by_cases h : r + 1 < BIN
  · rw [if_pos (by omega), if_pos h]; omega
  · rw [if_neg h]
    by_cases h1 : r < BIN
    · rw [if_pos h1]
      have : r + 1 = BIN := by omega
      rw [this, Nat.div_self hB, Nat.mod_self]
      simp; omega
    · rw [if_neg h1]
      by_cases h2 : (r + 1) % BIN = 0
      · -- carry
        have e1 : r % BIN = BIN - 1 := by
          have := Nat.div_add_mod (r + 1) BIN
          have h3 := Nat.div_add_mod r BIN
          have h4 := Nat.mod_lt r hB
          have h5 : (r + 1) % BIN = if r % BIN + 1 = BIN then 0 else r % BIN + 1 := by
            split
            · rename_i h6; exact h2
            · rename_i h6; rw [Nat.add_mod]; rw [Nat.mod_eq_of_lt (show 1 < BIN by decide)]; exact Nat.mod_eq_of_lt (by omega)
          split at h5
          · omega
          · omega
        have e2 : (r + 1) / BIN = r / BIN + 1 := by
          have h3 := Nat.div_add_mod r BIN
          have h4 : r + 1 = BIN * (r / BIN + 1) := by rw [Nat.mul_add]; omega
          conv => lhs; rw [h4]
          exact Nat.mul_div_cancel_left _ hB
        rw [h2, e1, e2]
        have h7 : 1 ≤ r / BIN := (Nat.le_div_iff_mul_le hB).2 (by omega)
        obtain ⟨q, hq⟩ : ∃ q, r / BIN = q + 1 := ⟨r / BIN - 1, by omega⟩
        rw [hq]
        simp only [Nat.add_sub_cancel, Nat.shiftLeft_eq, Nat.pow_succ]
        have : 0 < 2 ^ q := Nat.two_pow_pos q
        generalize 2 ^ q = p at *
        have : (BIN + (BIN - 1)) * p + p = BIN * (p * 2) := by
          rw [← Nat.succ_mul, ← Nat.mul_assoc, Nat.mul_comm _ 2, ← Nat.mul_assoc]
          congr 1
        simp only [Nat.add_zero]
        omega
      · have e1 : (r + 1) % BIN = r % BIN + 1 := by
          have h4 := Nat.mod_lt r hB
          rw [Nat.add_mod, Nat.mod_eq_of_lt (show 1 < BIN by decide)] at h2 ⊢
          by_cases h6 : r % BIN + 1 = BIN
          · rw [h6, Nat.mod_self] at h2; exact absurd rfl h2
          · exact Nat.mod_eq_of_lt (by omega)
        have e2 : (r + 1) / BIN = r / BIN := by
          have h3 := Nat.div_add_mod r BIN
          have h5 := Nat.div_add_mod (r + 1) BIN
          rw [e1] at h5
          have : BIN * ((r + 1) / BIN) = BIN * (r / BIN) := by omega
          exact Nat.eq_of_mul_eq_mul_left hB this
        rw [e1, e2]
        simp only [Nat.shiftLeft_eq]
        exact Nat.mul_lt_mul_of_pos_right (by omega) (Nat.two_pow_pos _)

theorem val_lt {r s : Nat} (h : r < s) : val r < val s := by
  induction s with
  | zero => omega
  | succ s ih =>
    rcases Nat.lt_succ_iff_lt_or_eq.1 h with h | rfl
    · exact Nat.lt_trans (ih h) (val_lt_succ s)
    · exact val_lt_succ r
theorem val_le {r s : Nat} (h : r ≤ s) : val r ≤ val s := by
  rcases Nat.lt_or_eq_of_le h with h | rfl
  · exact Nat.le_of_lt (val_lt h)
  · exact Nat.le_refl _
theorem val_lt_iff {r s : Nat} : val r < val s ↔ r < s := ⟨fun h => by
  rcases Nat.lt_or_ge r s with h' | h'
  · exact h'
  · exact absurd (val_le h') (by omega), val_lt⟩
theorem val_zero : val 0 = 0 := by decide

def neg (x : Nat) : Bool := x / SW % 2 == 1
theorem K_eq (x : Nat) : K x = if neg x then -((x % SW : Nat) : Int) else ((x % SW : Nat) : Int) := rfl
theorem V_eq (x : Nat) : V x = if neg x then -((val (x % SW) : Nat) : Int) else ((val (x % SW) : Nat) : Int) := rfl

theorem read_fin {x : Nat} (h : x % SW < INF) : ∃ m e : Nat, double.read x = .number (neg x) m (double.leastPlace + (e : Int)) ∧ m <<< e = val (x % SW) ∧ m < 2 * BIN := by
  have hB : 0 < BIN := by decide
  unfold Format.read
  simp only [signWeight_eq, binade_eq, infRung_eq]
  by_cases h1 : x % SW < BIN
  · refine ⟨x % SW, 0, ?_, ?_, by omega⟩
    · rw [if_pos h1]; simp [neg]
    · unfold val; rw [if_pos h1]; rfl
  · refine ⟨BIN + x % SW % BIN, x % SW / BIN - 1, ?_, ?_, by have := Nat.mod_lt (x % SW) hB; omega⟩
    · rw [if_neg h1, if_pos h]; rfl
    · unfold val; rw [if_neg h1]
theorem read_inf {x : Nat} (h : x % SW = INF) : double.read x = .infinity (neg x) := by
  unfold Format.read
  simp only [signWeight_eq, binade_eq, infRung_eq, h]
  rw [if_neg (by decide), if_neg (by decide), if_pos trivial]; rfl
theorem read_nan {x : Nat} (h : INF < x % SW) : double.read x = .nan (neg x) (x % SW - INF) := by
  unfold Format.read
  simp only [signWeight_eq, binade_eq, infRung_eq]
  rw [if_neg (by have : BIN < INF := by decide
                 omega), if_neg (by omega), if_neg (by omega)]; rfl

theorem cmp_lt {a b : Int} (h : a < b) : compare a b = .lt := by simp [compare, compareOfLessAndEq, h]
theorem cmp_gt {a b : Int} (h : b < a) : compare a b = .gt := by
  have h1 : ¬ a < b := by omega
  have h2 : ¬ a = b := by omega
  simp [compare, compareOfLessAndEq, h1, h2]
theorem cmp_eq {a b : Int} (h : a = b) : compare a b = .eq := by subst h; simp [compare, compareOfLessAndEq]
theorem compare_scale (a b : Int) (c : Nat) (hc : 0 < c) : compare (a * c) (b * c) = compare a b := by
  have hc' : (0 : Int) < c := by omega
  rcases Int.lt_trichotomy a b with h | h | h
  · rw [cmp_lt h, cmp_lt (Int.mul_lt_mul_of_pos_right h hc')]
  · subst h; simp
  · rw [cmp_gt h, cmp_gt (Int.mul_lt_mul_of_pos_right h hc')]

theorem signed_shift (s : Bool) (m a b : Nat) : signed s m (a + b) = signed s m a * ((2 ^ b : Nat) : Int) := by
  unfold signed
  simp only [Nat.shiftLeft_eq, Nat.pow_add, ← Nat.mul_assoc]
  split <;> simp [Int.natCast_mul, Int.neg_mul]

theorem signed_val (s : Bool) (m e : Nat) : signed s m e = if s then -((m <<< e : Nat) : Int) else ((m <<< e : Nat) : Int) := rfl

theorem order_fin {x y : Nat} (hx : x % SW < INF) (hy : y % SW < INF) : double.order x y = some (compare (V x) (V y)) := by
  obtain ⟨m, e, h1, h2, _⟩ := read_fin hx
  obtain ⟨n, f, h3, h4, _⟩ := read_fin hy
  unfold Format.order
  rw [h1, h3]
  simp only [Datum.order]
  congr 1
  generalize hb : min (double.leastPlace + (e : Int)) (double.leastPlace + (f : Int)) = base
  have hbase : base = double.leastPlace + ((min e f : Nat) : Int) := by omega
  rw [hbase]
  have e1 : (double.leastPlace + (e : Int) - (double.leastPlace + ((min e f : Nat) : Int))).toNat = e - min e f := by omega
  have e2 : (double.leastPlace + (f : Int) - (double.leastPlace + ((min e f : Nat) : Int))).toNat = f - min e f := by omega
  rw [e1, e2, ← compare_scale _ _ (2 ^ min e f) (Nat.two_pow_pos _), ← signed_shift, ← signed_shift]
  rw [show e - min e f + min e f = e by omega, show f - min e f + min e f = f by omega]
  rw [V_eq, V_eq, signed_val, signed_val, h2, h4]

theorem val_INF_gt {r : Nat} (h : r < INF) : val r < val INF := val_lt h

theorem order_num {x y : Nat} (hx : x % SW ≤ INF) (hy : y % SW ≤ INF) : double.order x y = some (compare (V x) (V y)) := by
  rcases Nat.lt_or_eq_of_le hx with hx | hx
  · rcases Nat.lt_or_eq_of_le hy with hy | hy
    · exact order_fin hx hy
    · obtain ⟨m, e, h1, h2, _⟩ := read_fin hx
      unfold Format.order
      rw [h1, read_inf hy]
      simp only [Datum.order]
      have := val_lt hx
      congr 1
      rw [V_eq, V_eq, hy]
      by_cases hn : neg y <;> simp only [hn, if_true, if_false, Bool.false_eq_true]
      · symm; refine cmp_gt ?_; split <;> omega
      · symm; refine cmp_lt ?_; split <;> omega
  · rcases Nat.lt_or_eq_of_le hy with hy | hy
    · obtain ⟨m, e, h1, h2, _⟩ := read_fin hy
      unfold Format.order
      rw [h1, read_inf hx]
      simp only [Datum.order]
      have := val_lt hy
      congr 1
      rw [V_eq, V_eq, hx]
      by_cases hn : neg x <;> simp only [hn, if_true, if_false, Bool.false_eq_true]
      · symm; refine cmp_lt ?_; split <;> omega
      · symm; refine cmp_gt ?_; split <;> omega
    · unfold Format.order
      rw [read_inf hx, read_inf hy]
      simp only [Datum.order]
      congr 1
      rw [V_eq, V_eq, hx, hy]
      have : val 0 < val INF := val_lt (by decide)
      cases neg x <;> cases neg y <;> simp only [if_true, if_false, Bool.false_eq_true, Bool.toNat_true, Bool.toNat_false]
      · simp
      · symm; rw [show compare 1 0 = Ordering.gt by decide]; refine cmp_gt ?_; omega
      · symm; rw [show compare 0 1 = Ordering.lt by decide]; refine cmp_lt ?_; omega
      · simp
theorem order_nan_left {x y : Nat} (hx : INF < x % SW) : double.order x y = none := by
  unfold Format.order; rw [read_nan hx]; simp [Datum.order]
theorem order_nan_right {x y : Nat} (hy : INF < y % SW) : double.order x y = none := by
  unfold Format.order; rw [read_nan hy]
  cases double.read x <;> simp [Datum.order]

theorem compare_VK (x y : Nat) : compare (V x) (V y) = compare (K x) (K y) := by
  have h0 : val 0 = 0 := val_zero
  have hm : ∀ r, r = 0 ∨ 0 < val r := fun r => by
    rcases Nat.eq_zero_or_pos r with h | h
    · exact .inl h
    · right; have := val_lt h; omega
  have key : (V x < V y ↔ K x < K y) ∧ (V x > V y ↔ K x > K y) := by
    rw [V_eq, V_eq, K_eq, K_eq]
    generalize x % SW = r
    generalize y % SW = s
    have h1 := @val_lt_iff r s
    have h2 := @val_lt_iff s r
    have h3 := hm r
    have h4 := hm s
    cases neg x <;> cases neg y <;> simp only [if_true, if_false, Bool.false_eq_true]
    · omega
    · have : r = 0 → val r = 0 := fun e => e ▸ h0
      have : s = 0 → val s = 0 := fun e => e ▸ h0
      omega
    · have : r = 0 → val r = 0 := fun e => e ▸ h0
      have : s = 0 → val s = 0 := fun e => e ▸ h0
      omega
    · omega
  rcases Int.lt_trichotomy (V x) (V y) with h | h | h
  · rw [cmp_lt h, cmp_lt (key.1.1 h)]
  · have : K x = K y := by
      have a1 := key.1; have a2 := key.2
      rcases Int.lt_trichotomy (K x) (K y) with g | g | g
      · have := a1.2 g; omega
      · exact g
      · have := a2.2 g; omega
    rw [cmp_eq h, cmp_eq this]
  · rw [cmp_gt h, cmp_gt (key.2.1 h)]

/-! ### rounding -/
/-- n / g to the nearest whole number, ties to even -/
def rne (n g : Nat) : Nat := n / g + if g < 2 * (n % g) ∨ (g = 2 * (n % g) ∧ n / g % 2 = 1) then 1 else 0

theorem rne_scale (n g c : Nat) (hc : 0 < c) : rne (n * c) (g * c) = rne n g := by
  unfold rne
  rw [Nat.mul_div_mul_right _ _ hc, Nat.mul_mod_mul_right]
  have e1 : (g * c < 2 * (n % g * c)) ↔ g < 2 * (n % g) := by rw [← Nat.mul_assoc]; exact Nat.mul_lt_mul_right hc
  have e2 : (g * c = 2 * (n % g * c)) ↔ g = 2 * (n % g) := by
    rw [← Nat.mul_assoc]; exact ⟨fun h => Nat.eq_of_mul_eq_mul_right hc h, fun h => by rw [← h]⟩
  simp only [e1, e2]

theorem rne_one (n : Nat) : rne n 1 = n := by
  unfold rne; simp [Nat.mod_one]

theorem rne_mono {n n' g : Nat} (hg : 0 < g) (h : n ≤ n') : rne n g ≤ rne n' g := by
  have h1 := Nat.div_add_mod n g
  have h2 := Nat.div_add_mod n' g
  have h3 := Nat.mod_lt n hg
  have h4 := Nat.mod_lt n' hg
  have h5 : n / g ≤ n' / g := Nat.div_le_div_right h
  rcases Nat.lt_or_eq_of_le h5 with h6 | h6
  · unfold rne; split <;> split <;> omega
  · unfold rne
    rw [h6] at h1 ⊢
    split
    · rename_i h7; rw [if_pos (by omega)]; omega
    · split <;> omega

theorem rne_le {n g b : Nat} (hg : 0 < g) (h : n ≤ b * g) : rne n g ≤ b := by
  have := rne_mono hg h
  rwa [show b * g = b * g from rfl, show g = 1 * g by omega, show b * (1 * g) = b * g by rw [Nat.one_mul], rne_scale b 1 g hg, rne_one, Nat.one_mul] at this
theorem le_rne {n g b : Nat} (hg : 0 < g) (h : b * g ≤ n) : b ≤ rne n g := by
  have := rne_mono hg h
  have e : rne (b * g) g = b := by
    have := rne_scale b 1 g hg
    rwa [Nat.one_mul, rne_one] at this
  rwa [e] at this

theorem cut_even (s : Bool) (n d : Nat) : Toward.even.cut s n d = rne n (2 ^ d) := by
  have cut : ∀ g, 0 < g → (n / g + (decide (g < 2 * (n % g)) || (g == 2 * (n % g) && n / g % 2 == 1)).toNat) = rne n g := by
    intro g _
    unfold rne
    congr 1
    by_cases h1 : g < 2 * (n % g)
    · simp [h1]
    · by_cases h2 : g = 2 * (n % g)
      · by_cases h3 : n / g % 2 = 1
        · rw [if_pos (.inr ⟨h2, h3⟩)]
          simp [← h2, h3]
        · rw [if_neg (by rintro (h | h); exact h1 h; exact h3 h.2)]
          simp [h1, h3]
      · rw [if_neg (by rintro (h | h); exact h1 h; exact h2 h.1)]
        simp [h1, h2]
  unfold Toward.cut
  simp only [Nat.shiftLeft_eq, Nat.one_mul]
  by_cases hd : d ≤ n.log2 + 2
  · rw [Nat.min_eq_left hd]
    exact cut _ (Nat.two_pow_pos _)
  · rw [Nat.min_eq_right (by omega)]
    refine (cut _ (Nat.two_pow_pos _)).trans ?_
    have hn : n < 2 ^ (n.log2 + 1) := Nat.lt_log2_self
    have big : ∀ D, n.log2 + 2 ≤ D → rne n (2 ^ D) = 0 := by
      intro D hD
      have h1 : 2 ^ (n.log2 + 2) ≤ 2 ^ D := Nat.pow_le_pow_right (by omega) hD
      rw [Nat.pow_succ] at h1
      unfold rne
      rw [Nat.div_eq_of_lt (by omega), Nat.mod_eq_of_lt (by omega), if_neg (by omega)]
    rw [big _ (Nat.le_refl _), big _ (by omega)]

/-- the rung nearest to n / 2^k units -/
def Rq (n k : Nat) : Nat :=
  if n = 0 then 0 else min ((n.log2 - (k + 52)) * BIN + rne n (2 ^ (k + (n.log2 - (k + 52))))) INF

theorem Rq_le (n k : Nat) : Rq n k ≤ INF := by
  unfold Rq; split
  · decide
  · exact Nat.min_le_right ..

theorem word_eq (s : Bool) (r : Nat) : double.word s r = if s then SW + r else r := by
  unfold Format.word; rw [signWeight_eq]

theorem log2_shift (n k : Nat) (hn : n ≠ 0) : (n <<< k).log2 = n.log2 + k := by
  rw [Nat.shiftLeft_eq]
  have h0 : n * 2 ^ k ≠ 0 := Nat.mul_ne_zero hn (Nat.ne_of_gt (Nat.two_pow_pos _))
  have h1 : 2 ^ n.log2 ≤ n := Nat.log2_self_le hn
  have h2 : n < 2 ^ (n.log2 + 1) := Nat.lt_log2_self
  have h3 : n.log2 + k ≤ (n * 2 ^ k).log2 := (Nat.le_log2 h0).2 (by rw [Nat.pow_add]; exact Nat.mul_le_mul_right _ h1)
  have h4 : (n * 2 ^ k).log2 < n.log2 + 1 + k := (Nat.log2_lt h0).2 (by rw [Nat.pow_add]; exact Nat.mul_lt_mul_of_pos_right h2 (Nat.two_pow_pos _))
  omega

theorem Rq_scale (n k c : Nat) : Rq (n <<< c) (k + c) = Rq n k := by
  unfold Rq
  by_cases h : n = 0
  · subst h; simp
  · have h' : n <<< c ≠ 0 := by rw [Nat.shiftLeft_eq]; exact Nat.mul_ne_zero h (Nat.ne_of_gt (Nat.two_pow_pos _))
    rw [if_neg h, if_neg h', log2_shift n c h]
    have e : n.log2 + c - (k + c + 52) = n.log2 - (k + 52) := by omega
    rw [e, Nat.shiftLeft_eq, show k + c + (n.log2 - (k + 52)) = k + (n.log2 - (k + 52)) + c by omega, Nat.pow_add _ _ c, rne_scale _ _ _ (Nat.two_pow_pos _)]

theorem nearest_eq (s : Bool) (m : Nat) (p : Int) (u d : Nat) (hp : p = double.leastPlace + (u : Int) - (d : Int)) : double.nearest s m p = double.word s (Rq (m <<< u) d) := by
  unfold Format.nearest Rq
  by_cases hm : m = 0
  · subst hm; simp
  · have h' : m <<< u ≠ 0 := by rw [Nat.shiftLeft_eq]; exact Nat.mul_ne_zero hm (Nat.ne_of_gt (Nat.two_pow_pos _))
    rw [if_neg hm, if_neg h', log2_shift m u hm]
    have hfb : double.fractionBits = 52 := rfl
    simp only [binade_eq, infRung_eq, hfb]
    generalize hl : (max (p + (m.log2 : Int) - ((52 : Nat) : Int)) double.leastPlace) = last
    have hlast : last = double.leastPlace + ((m.log2 + u - (d + 52) : Nat) : Int) := by omega
    have e1 : (last - double.leastPlace).toNat = m.log2 + u - (d + 52) := by omega
    rw [e1, cut_even]
    congr 2
    congr 1
    generalize he : m.log2 + u - (d + 52) = e at *
    rcases Nat.le_total (d + e) u with h | h
    · have a1 : (p - last).toNat = u - (d + e) := by omega
      have a2 : (last - p).toNat = 0 := by omega
      rw [a1, a2, Nat.pow_zero, rne_one]
      have := rne_scale (m <<< (u - (d + e))) 1 (2 ^ (d + e)) (Nat.two_pow_pos _)
      rw [Nat.one_mul, rne_one, Nat.shiftLeft_eq, Nat.mul_assoc, ← Nat.pow_add, show u - (d + e) + (d + e) = u by omega] at this
      rw [Nat.shiftLeft_eq m u, this]
      rw [Nat.shiftLeft_eq]
    · have a1 : (p - last).toNat = 0 := by omega
      have a2 : (last - p).toNat = d + e - u := by omega
      rw [a1, a2, Nat.shiftLeft_zero]
      have := rne_scale m (2 ^ (d + e - u)) (2 ^ u) (Nat.two_pow_pos _)
      rw [← Nat.pow_add, show d + e - u + u = d + e by omega] at this
      rw [Nat.shiftLeft_eq, this]

theorem rung_mono {B I n n' k : Nat} (hB : B = 2 ^ 52) (h0 : n ≠ 0) (h : n ≤ n') :
    min ((n.log2 - (k + 52)) * B + rne n (2 ^ (k + (n.log2 - (k + 52))))) I ≤ min ((n'.log2 - (k + 52)) * B + rne n' (2 ^ (k + (n'.log2 - (k + 52))))) I := by
  have h0' : n' ≠ 0 := by omega
  have hl : n.log2 ≤ n'.log2 := (Nat.le_log2 h0').2 (Nat.le_trans (Nat.log2_self_le h0) h)
  generalize he : n.log2 - (k + 52) = e
  generalize he' : n'.log2 - (k + 52) = e'
  have hee : e ≤ e' := by omega
  rcases Nat.lt_or_eq_of_le hee with hlt | heq
  · have h1 : rne n (2 ^ (k + e)) ≤ 2 * B := by
      refine rne_le (Nat.two_pow_pos _) ?_
      have a1 : n < 2 ^ (n.log2 + 1) := Nat.lt_log2_self
      have a2 : 2 ^ (n.log2 + 1) ≤ 2 ^ (53 + (k + e)) := Nat.pow_le_pow_right (by omega) (by omega)
      have a3 : 2 * B * 2 ^ (k + e) = 2 ^ (53 + (k + e)) := by rw [hB, Nat.pow_add 2 53]
      rw [a3]
      exact Nat.le_of_lt (Nat.lt_of_lt_of_le a1 a2)
    have h2 : B ≤ rne n' (2 ^ (k + e')) := by
      refine le_rne (Nat.two_pow_pos _) ?_
      have a1 : 2 ^ n'.log2 ≤ n' := Nat.log2_self_le h0'
      have a2 : 2 ^ (52 + (k + e')) ≤ 2 ^ n'.log2 := Nat.pow_le_pow_right (by omega) (by omega)
      have a3 : B * 2 ^ (k + e') = 2 ^ (52 + (k + e')) := by rw [hB, Nat.pow_add 2 52]
      rw [a3]
      exact Nat.le_trans a2 a1
    have h3 : (e + 1) * B ≤ e' * B := Nat.mul_le_mul_right _ hlt
    rw [Nat.add_mul, Nat.one_mul] at h3
    clear hB
    generalize e * B = x at *
    generalize e' * B = y at *
    omega
  · subst heq
    have := rne_mono (Nat.two_pow_pos (k + e)) h
    clear hB
    generalize e * B = x at *
    omega

theorem Rq_mono {n n' k : Nat} (h : n ≤ n') : Rq n k ≤ Rq n' k := by
  unfold Rq
  by_cases h0 : n = 0
  · rw [if_pos h0]; exact Nat.zero_le _
  have h0' : n' ≠ 0 := by omega
  rw [if_neg h0, if_neg h0']
  exact rung_mono (by decide) h0 h

theorem rung_val {B I r : Nat} (hB : B = 2 ^ 52) (h : r ≤ I) (hr : B ≤ r) :
    min ((((B + r % B) <<< (r / B - 1)).log2 - (0 + 52)) * B + rne ((B + r % B) <<< (r / B - 1)) (2 ^ (0 + (((B + r % B) <<< (r / B - 1)).log2 - (0 + 52))))) I = r := by
  have hB0 : 0 < B := by rw [hB]; exact Nat.two_pow_pos _
  have hm := Nat.mod_lt r hB0
  have hl : (B + r % B).log2 = 52 := by
    have a1 : 52 ≤ (B + r % B).log2 := (Nat.le_log2 (by omega)).2 (by omega)
    have a3 : (2 : Nat) ^ 53 = 2 * B := by rw [hB]
    have a2 : (B + r % B).log2 < 53 := (Nat.log2_lt (by omega)).2 (by omega)
    omega
  have hq : 1 ≤ r / B := (Nat.le_div_iff_mul_le hB0).2 (by omega)
  rw [log2_shift _ _ (by omega), hl, show 52 + (r / B - 1) - (0 + 52) = r / B - 1 by omega, Nat.zero_add]
  have h1 := rne_scale (B + r % B) 1 (2 ^ (r / B - 1)) (Nat.two_pow_pos _)
  rw [Nat.one_mul, rne_one] at h1
  rw [Nat.shiftLeft_eq, h1]
  have h2 := Nat.div_add_mod r B
  have h3 : (r / B - 1) * B + B = B * (r / B) := by
    rw [← Nat.succ_mul, Nat.succ_eq_add_one, Nat.sub_add_cancel hq, Nat.mul_comm]
  clear hB
  generalize (r / B - 1) * B = x at *
  generalize B * (r / B) = y at *
  omega

theorem rung_val_small {B I r : Nat} (hB : B = 2 ^ 52) (h : r ≤ I) (h0 : r ≠ 0) (hr : r < B) :
    min ((r.log2 - (0 + 52)) * B + rne r (2 ^ (0 + (r.log2 - (0 + 52))))) I = r := by
  have hl : r.log2 < 52 := (Nat.log2_lt h0).2 (by omega)
  rw [show r.log2 - (0 + 52) = 0 by omega]
  simp only [Nat.zero_add, Nat.zero_mul, Nat.pow_zero, rne_one]
  omega

theorem Rq_val {r : Nat} (h : r ≤ INF) : Rq (val r) 0 = r := by
  unfold Rq
  by_cases h0 : r = 0
  · subst h0; rw [if_pos val_zero]
  have hv : val r ≠ 0 := by have := val_lt (show 0 < r by omega); omega
  rw [if_neg hv]
  by_cases hr : r < BIN
  · have e : val r = r := by unfold val; rw [if_pos hr]
    rw [e]
    exact rung_val_small (by decide) h h0 hr
  · have e : val r = (BIN + r % BIN) <<< (r / BIN - 1) := by unfold val; rw [if_neg hr]
    rw [e]
    exact rung_val (by decide) h (by omega)
theorem u64_or (x : Nat) (h : x < 9223372036854775808) : bits .or .u64 (x : Int) 9223372036854775808 = ((x + 9223372036854775808 : Nat) : Int) := by
  have h1 := bits_or_u64_nat x 9223372036854775808 (by omega) (by omega)
  have h2 : x ||| 9223372036854775808 = x + 9223372036854775808 := by
    have := Nat.two_pow_add_eq_or_of_lt (i := 63) (b := x) h 1
    rw [Nat.or_comm, Nat.add_comm]
    exact this.symm
  rw [h2] at h1
  exact h1
theorem u64_xor (x : Nat) (h : x < 18446744073709551616) : bits .xor .u64 IntKind.u64.max (x : Int) = ((18446744073709551615 - x : Nat) : Int) := by
  have h1 := bits_xor_u64_nat 18446744073709551615 x (by omega) h
  have h2 : 18446744073709551615 ^^^ x = 18446744073709551615 - x := by
    apply Nat.eq_of_testBit_eq
    intro i
    have e1 : 18446744073709551615 - x = 2 ^ 64 - (x + 1) := by omega
    have e2 : 18446744073709551615 = 2 ^ 64 - 1 := by decide
    rw [e1, Nat.testBit_two_pow_sub_succ (by exact h), Nat.testBit_xor, e2, Nat.testBit_two_pow_sub_one]
    by_cases hi : i < 64
    · simp [hi]
    · have : x.testBit i = false := Nat.testBit_lt_two_pow (Nat.lt_of_lt_of_le (show x < 2 ^ 64 from h) (Nat.pow_le_pow_right (by omega) (by omega)))
      simp [hi, this]
  rw [h2] at h1
  exact h1
theorem u64_andNot_top (x : Nat) (h : x < 18446744073709551616) : bits .andNot .u64 (x : Int) 9223372036854775808 = ((x % 9223372036854775808 : Nat) : Int) := by
  have h1 : (BitVec.ofInt 64 (x : Int)).toNat = x := by
    rw [BitVec.ofInt_natCast, BitVec.toNat_ofNat]; exact Nat.mod_eq_of_lt h
  have h2 : (~~~ (BitVec.ofInt 64 (9223372036854775808 : Int))).toNat = 9223372036854775807 := by decide
  show IntKind.u64.wrap ((BitVec.ofInt 64 (x : Int) &&& ~~~ (BitVec.ofInt 64 (9223372036854775808 : Int))).toNat : Int) = _
  rw [BitVec.toNat_and, h1, h2, IntKind.wrap_u64]
  have h3 := Nat.and_two_pow_sub_one_eq_mod x 63
  have e1 : (2 : Nat) ^ 63 - 1 = 9223372036854775807 := by decide
  have e2 : (2 : Nat) ^ 63 = 9223372036854775808 := by decide
  rw [e1, e2] at h3
  rw [h3]
  omega
/-! ### the orders -/
def MAXF : Nat := 9218868437227405311
def NONE : Nat := 9221120237041090561
def U64 (x : Nat) : Prop := x < 18446744073709551616
def nanB (x : Nat) : Bool := decide (INF < x % SW)
def infB (x : Nat) : Bool := decide (x % SW = INF)
def cntB (x : Nat) : Bool := decide (x % SW < INF)
def numB (x : Nat) : Bool := decide (x % SW ≤ INF)
def topB (x : Nat) : Bool := decide (SW ≤ x)
def place (x : Nat) : Nat := if x < SW then x + SW else 18446744073709551615 - x
theorem place_hi {x : Nat} (h : ¬ x < SW) : place x = 18446744073709551615 - x := by unfold place; rw [if_neg h]
theorem place_lo {x : Nat} (h : x < SW) : place x = x + SW := by unfold place; rw [if_pos h]
def ord (a b : Nat) : Int := if place a < place b then -1 else if place b < place a then 1 else 0
theorem ord_lt {a b : Nat} (h : place a < place b) : ord a b = -1 := by unfold ord; rw [if_pos h]
theorem ord_gt {a b : Nat} (h : place b < place a) : ord a b = 1 := by unfold ord; rw [if_neg (by omega), if_pos h]
theorem ord_eq {a b : Nat} (h1 : ¬ place a < place b) (h2 : ¬ place b < place a) : ord a b = 0 := by unfold ord; rw [if_neg h1, if_neg h2]

theorem nan_order (x : Nat) : (double.order x x != some .eq) = nanB x := by
  unfold nanB
  by_cases h : INF < x % SW
  · rw [order_nan_left h]; simp [h]
  · rw [order_num (by omega) (by omega), cmp_eq rfl]; simp [h]

theorem inf_order (x : Nat) : (double.order (x % SW) MAXF == some .gt) = infB x := by
  unfold infB
  have e1 : x % SW % SW = x % SW := Nat.mod_mod _ _
  have e2 : MAXF % SW = MAXF := by decide
  have hM : MAXF + 1 = INF := by decide
  have hlt : x % SW < SW := Nat.mod_lt _ (by decide)
  have n1 : neg (x % SW) = false := by unfold neg; rw [Nat.div_eq_of_lt hlt]; rfl
  have n2 : neg MAXF = false := by decide
  by_cases h : INF < x % SW
  · rw [order_nan_left (by rw [e1]; exact h)]
    have : ¬ x % SW = INF := by omega
    simp [this]
  · rw [order_num (by rw [e1]; omega) (by rw [e2]; omega), compare_VK, K_eq, K_eq, n1, n2, e1, e2]
    simp only [Bool.false_eq_true, if_false]
    by_cases h2 : x % SW = INF
    · rw [cmp_gt (by omega)]; simp [h2]
    · rcases Nat.lt_or_eq_of_le (show x % SW ≤ MAXF by omega) with h3 | h3
      · rw [cmp_lt (by omega)]; simp [h2]
      · rw [cmp_eq (by omega)]; simp [h2]

theorem SW2 : SW + SW = 18446744073709551616 := by decide
theorem place_inj {a b : Nat} (ha : U64 a) (hb : U64 b) (h : place a = place b) : a = b := by
  have := SW2
  unfold U64 at ha hb
  unfold place at h
  split at h <;> split at h <;> omega
theorem place_lt {a : Nat} (ha : U64 a) : U64 (place a) := by
  have := SW2
  unfold U64 at ha
  unfold place U64
  split <;> omega

theorem mod_SW {a : Nat} (ha : U64 a) : a % SW = if a < SW then a else a - SW := by
  have := SW2
  unfold U64 at ha
  split
  · rename_i h; exact Nat.mod_eq_of_lt h
  · rename_i h
    rw [Nat.mod_eq_sub_mod (by omega)]; exact Nat.mod_eq_of_lt (by omega)
theorem neg_SW {a : Nat} (ha : U64 a) : neg a = decide (SW ≤ a) := by
  have h2 := SW2
  unfold U64 at ha
  unfold neg
  by_cases h : SW ≤ a
  · have : a / SW = 1 := by
      have h1 : 1 ≤ a / SW := (Nat.le_div_iff_mul_le (by decide)).2 (by omega)
      have h3 : a / SW < 2 := (Nat.div_lt_iff_lt_mul (by decide)).2 (by omega)
      omega
    rw [this]; simp [h]
  · rw [Nat.div_eq_of_lt (by omega)]; simp [h]

theorem K_SW {a : Nat} (ha : U64 a) : K a = if a < SW then (a : Int) else -((a - SW : Nat) : Int) := by
  rw [K_eq, neg_SW ha, mod_SW ha]
  by_cases h : a < SW
  · have : ¬ SW ≤ a := by omega
    simp [h, this]
  · have : SW ≤ a := by omega
    simp [h, this]

/-- the order by numbers is the order by places, where they differ -/
theorem place_of_K {a b : Nat} (ha : U64 a) (hb : U64 b) (h : K a < K b) : place a < place b := by
  rw [K_SW ha, K_SW hb] at h
  unfold place
  have := SW2
  unfold U64 at ha hb
  split at h <;> split at h
  · rename_i h1 h2; rw [if_pos h1, if_pos h2]; omega
  · rename_i h1 h2; rw [if_pos h1, if_neg h2]; omega
  · rename_i h1 h2; rw [if_neg h1, if_pos h2]; omega
  · rename_i h1 h2; rw [if_neg h1, if_neg h2]; omega
theorem K_of_place {a b : Nat} (ha : U64 a) (hb : U64 b) (h : place a ≤ place b) : K a ≤ K b := by
  rcases Int.lt_or_le (K b) (K a) with h' | h'
  · have := place_of_K hb ha h'; omega
  · exact h'
theorem lt_order {a b : Nat} (ha : U64 a) (hb : U64 b) (h : double.order a b = some .lt) : place a < place b := by
  by_cases h1 : INF < a % SW
  · rw [order_nan_left h1] at h; cases h
  by_cases h2 : INF < b % SW
  · rw [order_nan_right h2] at h; cases h
  rw [order_num (by omega) (by omega), compare_VK] at h
  refine place_of_K ha hb ?_
  rcases Int.lt_trichotomy (K a) (K b) with h | h' | h'
  · exact h
  · rw [cmp_eq h'] at h; cases h
  · rw [cmp_gt h'] at h; cases h
theorem gt_order {a b : Nat} (ha : U64 a) (hb : U64 b) (h : double.order a b = some .gt) : place b < place a := by
  by_cases h1 : INF < a % SW
  · rw [order_nan_left h1] at h; cases h
  by_cases h2 : INF < b % SW
  · rw [order_nan_right h2] at h; cases h
  rw [order_num (by omega) (by omega), compare_VK] at h
  refine place_of_K hb ha ?_
  rcases Int.lt_trichotomy (K a) (K b) with h' | h' | h'
  · rw [cmp_lt h'] at h; cases h
  · rw [cmp_eq h'] at h; cases h
  · exact h'
end Go.GMath
