/-
  Nothing unsaid: what is taken and what waits tells all from one number to another.
-/
import Derived.Test.YtdljloohgidbfaaOftenD
namespace Go.Proofs.Ytdljloohgidbfaa
open Go Go.RowKit Go.Mem

/-- an item, read: from number s on -/
def stepC (s : Int) (x : It) : Option Int := if 0 < x.l then (if x.v = 0 then some (s + x.l) else none) else if x.v = s then some (s + 1) else none
def consC (s : Int) : List It → Option Int
  | [] => some s
  | x :: r => (stepC s x).bind fun s' => consC s' r

theorem stepC_le {s s' : Int} {x : It} (h : stepC s x = some s') : s < s' := by
  unfold stepC at h
  split at h
  · split at h
    · simp at h; omega
    · cases h
  · split at h
    · simp at h; omega
    · cases h
theorem consC_append (s : Int) (a b : List It) : consC s (a ++ b) = (consC s a).bind fun s' => consC s' b := by
  induction a generalizing s with
  | nil => rfl
  | cons x r ih =>
    simp only [List.cons_append, consC]
    cases stepC s x with
    | none => rfl
    | some s' => exact ih s'
theorem consC_le {s m : Int} {l : List It} (h : consC s l = some m) : s ≤ m := by
  induction l generalizing s with
  | nil => simp [consC] at h; omega
  | cons x r ih =>
    simp only [consC] at h
    cases hs : stepC s x with
    | none => rw [hs] at h; cases h
    | some s' =>
      rw [hs] at h
      have := ih h
      have := stepC_le hs
      omega
/-- the next item -/
theorem consC_at {s m s' : Int} {l : List It} {j : Nat} {x : It} (h : consC s l = some m) (hx : l[j]? = some x) (hs : consC s (l.take j) = some s') :
    ∃ s'', stepC s' x = some s'' ∧ consC s (l.take (j + 1)) = some s'' ∧ s'' ≤ m ∧ s ≤ s' := by
  have e1 : l.take (j + 1) = l.take j ++ [x] := by rw [List.take_add_one, hx]; rfl
  have e2 : l = l.take (j + 1) ++ l.drop (j + 1) := (List.take_append_drop _ _).symm
  rw [e2, consC_append] at h
  have e3 : consC s (l.take (j + 1)) = stepC s' x := by
    rw [e1, consC_append, hs]
    simp only [Option.bind_some, consC]
    cases stepC s' x <;> rfl
  rw [e3] at h
  cases hc : stepC s' x with
  | none => rw [hc] at h; cases h
  | some s'' =>
    rw [hc] at h
    exact ⟨s'', rfl, by rw [e3, hc], consC_le h, consC_le hs⟩

/-- p tells all from s to t -/
def Cov (s t : Int) (p : List It × Nat) : Prop := ∃ m, consC s p.1 = some m ∧ m + p.2 = t

theorem cov_start (t : Int) : Cov t t ([], 0) := ⟨t, rfl, by simp⟩
theorem cov_le {s t : Int} {p : List It × Nat} (h : Cov s t p) : s ≤ t := by
  obtain ⟨m, h1, h2⟩ := h
  have := consC_le h1
  omega
theorem cov_push {s t : Int} {p : List It × Nat} {e : Ev} (h : Cov s t p) (he : e.v = t) : Cov s (t + 1) (pushI p e) := by
  obtain ⟨m, h1, h2⟩ := h
  unfold pushI
  split
  · split
    · exact ⟨m, h1, by simp only; omega⟩
    · rename_i hp _
      refine ⟨t + 1, ?_, by simp⟩
      have hp' : (0 : Int) < (p.2 : Int) := by omega
      simp only [consC_append, h1, Option.bind_some, consC, stepC, gap, Ev.it, hp', if_true, h2, he, Int.lt_irrefl, if_false]
  · split
    · rename_i hp _
      exact ⟨m, h1, by simp only; omega⟩
    · rename_i hp _
      refine ⟨t + 1, ?_, by simp⟩
      have hm : m = t := by omega
      simp only [consC_append, h1, Option.bind_some, consC, stepC, Ev.it, he, hm, Int.lt_irrefl, if_false, if_true]
theorem cov_evs {s : Int} {f : Nat} {p : List It × Nat} (k : Nat) (h : Cov s f p) : Cov s ((f + k : Nat) : Int) ((evs f k).foldl pushI p) := by
  induction k with
  | zero => simpa [evs] using h
  | succ k ih =>
    rw [evs_succ, List.foldl_append]
    have := cov_push (e := evAt f k) ih rfl
    simpa [Int.add_assoc] using this
theorem cov_take {s t : Int} {p : List It × Nat} (n : Int) (h : Cov s t p) : ∃ s', consC s (takeI p n).1 = some s' ∧ Cov s' t (takeI p n).2 := by
  obtain ⟨m, h1, h2⟩ := h
  unfold takeI
  split
  · rename_i hg
    have hp' : (0 : Int) < (p.2 : Int) := by omega
    refine ⟨t, ?_, cov_start t⟩
    simp only [consC_append, h1, Option.bind_some, consC, stepC, gap, hp', if_true, h2]
  · have e : p.1 = p.1.take n.toNat ++ p.1.drop n.toNat := (List.take_append_drop _ _).symm
    rw [e, consC_append] at h1
    cases hc : consC s (p.1.take n.toNat) with
    | none => rw [hc] at h1; cases h1
    | some s' =>
      rw [hc] at h1
      exact ⟨s', rfl, m, h1, h2⟩
theorem take_len (p : List It × Nat) (n : Int) : (0 < n → ((takeI p n).1.length : Int) ≤ n) ∧ (n < 1 → (takeI p n).1.length = 0) := by
  unfold takeI
  split
  · rename_i hg
    simp only [List.length_append, List.length_singleton]
    omega
  · simp only [List.length_take]
    omega
theorem take_hundred (p : List It × Nat) (h : p.1.length ≤ 16) : (takeI p 100).2 = ([], 0) := by
  unfold takeI
  split
  · rfl
  · rename_i hg
    have : p.2 = 0 := by omega
    rw [List.drop_of_length_le (by omega), this]
theorem take_few (p : List It × Nat) (n : Int) (h : p.1.length ≤ 16) : (takeI p n).2.1.length ≤ 16 := by
  unfold takeI
  split
  · simp
  · simp only [List.length_drop]; omega
theorem take_lost (p : List It × Nat) (n : Int) : (takeI p n).2.2 ≤ p.2 := by
  unfold takeI
  split <;> simp
theorem cov_lost {s t : Int} {p : List It × Nat} (h : Cov s t p) : (p.2 : Int) ≤ t - s := by
  obtain ⟨m, h1, h2⟩ := h
  have := consC_le h1
  omega
theorem take_17 (p : List It × Nat) (n : Int) (h : p.1.length ≤ 16) : (takeI p n).1.length ≤ 17 := by
  unfold takeI
  split
  · simp only [List.length_append, List.length_singleton]; omega
  · simp only [List.length_take]; omega
end Go.Proofs.Ytdljloohgidbfaa
