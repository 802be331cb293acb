/-
  Put each in its place: plain.
-/
import Derived.Test.YtnmadkallkoadaaSortD
namespace Go.Proofs.Ytnmadkallkoadaa
open Go.RowKit Go.GMath

def Near (S : List Nat) (k : Nat) : Prop := ∀ a b, a < b → b < S.length → b ≠ k → place (S.getD a 0) ≤ place (S.getD b 0)
def Ord (S : List Nat) : Prop := ∀ a b, a < b → b < S.length → place (S.getD a 0) ≤ place (S.getD b 0)
def swp (S : List Nat) (k : Nat) : List Nat := (S.set (k - 1) (S.getD k 0)).set k (S.getD (k - 1) 0)
theorem swp_length (S : List Nat) (k : Nat) : (swp S k).length = S.length := by simp [swp]
theorem swp_get {S : List Nat} {k : Nat} (h0 : 0 < k) (hk : k < S.length) (a : Nat) : (swp S k).getD a 0 = if a = k then S.getD (k - 1) 0 else if a = k - 1 then S.getD k 0 else S.getD a 0 := by
  unfold swp
  rw [List.getD_eq_getElem?_getD, List.getElem?_set]
  by_cases h1 : a = k
  · subst h1; rw [if_pos rfl, if_pos (by simpa using hk), if_pos rfl]; rfl
  · rw [if_neg (fun h => h1 h.symm), if_neg h1, List.getElem?_set]
    by_cases h2 : a = k - 1
    · subst h2; rw [if_pos rfl, if_pos (by omega), if_pos rfl]; rfl
    · rw [if_neg (fun h => h2 h.symm), if_neg h2, List.getD_eq_getElem?_getD]
theorem getD_app {S l : List Nat} {a : Nat} (h : a < S.length) : (S ++ l).getD a 0 = S.getD a 0 := by
  rw [List.getD_eq_getElem?_getD, List.getElem?_append_left h, ← List.getD_eq_getElem?_getD]
theorem near_start {S : List Nat} {x : Nat} (h : Ord S) : Near (S ++ [x]) S.length := by
  intro a b hab hb hne
  rw [List.length_append, List.length_singleton] at hb
  rw [getD_app (by omega), getD_app (by omega)]
  exact h a b hab (by omega)
theorem near_end {S : List Nat} {k : Nat} (h : Near S k) (he : k = 0 ∨ place (S.getD (k - 1) 0) ≤ place (S.getD k 0)) : Ord S := by
  intro a b hab hb
  by_cases hk : b = k
  · subst hk
    rcases he with he | he
    · omega
    · by_cases ha : a = b - 1
      · subst ha; exact he
      · exact Nat.le_trans (h a (b - 1) (by omega) (by omega) (by omega)) he
  · exact h a b hab hb hk
theorem near_step {S : List Nat} {k : Nat} (h : Near S k) (h0 : 0 < k) (hk : k < S.length) (hlt : place (S.getD k 0) < place (S.getD (k - 1) 0)) : Near (swp S k) (k - 1) := by
  intro a b hab hb hne
  rw [swp_length] at hb
  rw [swp_get h0 hk, swp_get h0 hk]
  by_cases h1 : b = k
  · subst h1
    rw [if_neg (by omega), if_pos rfl]
    by_cases h2 : a = b - 1
    · rw [if_pos h2]; omega
    · rw [if_neg h2]; exact h a (b - 1) (by omega) (by omega) (by omega)
  · rw [if_neg h1, if_neg hne]
    by_cases h2 : a = k
    · subst h2; rw [if_pos rfl]; exact h (a - 1) b (by omega) hb h1
    · rw [if_neg h2]
      by_cases h3 : a = k - 1
      · rw [if_pos h3]; exact h k b (by omega) hb h1
      · rw [if_neg h3]; exact h a b hab hb h1
theorem swp_perm {S : List Nat} {k : Nat} (h0 : 0 < k) (hk : k < S.length) : (swp S k).Perm S := by
  obtain ⟨p, a, b, q, hS, hp⟩ : ∃ p a b q, S = p ++ a :: b :: q ∧ p.length = k - 1 := by
    refine ⟨S.take (k - 1), S[k - 1], S[k], S.drop (k + 1), ?_, by rw [List.length_take]; omega⟩
    have e1 : S.drop k = S[k] :: S.drop (k + 1) := List.drop_eq_getElem_cons hk
    have e2 : S.drop (k - 1) = S[k - 1] :: S.drop (k - 1 + 1) := List.drop_eq_getElem_cons (by omega)
    rw [show k - 1 + 1 = k by omega, e1] at e2
    rw [← e2, List.take_append_drop]
  obtain rfl : k = p.length + 1 := by omega
  have hsw : swp S (p.length + 1) = p ++ b :: a :: q := by
    subst hS
    unfold swp
    simp [List.getD_eq_getElem?_getD]
  rw [hsw, hS]
  exact List.Perm.append_left p (List.Perm.swap a b q)
theorem ord_pair {S : List Nat} (h : Ord S) : S.Pairwise fun x y => place x ≤ place y := by
  rw [List.pairwise_iff_getElem]
  intro i j hi hj hij
  have := h i j hij hj
  rw [List.getD_eq_getElem?_getD, List.getD_eq_getElem?_getD, List.getElem?_eq_getElem hi, List.getElem?_eq_getElem hj] at this
  exact this
theorem ord_srt {S zs : List Nat} (h : Ord S) (hp : S.Perm zs) (hz : ∀ x ∈ zs, U64 x) : S = srt zs := by
  refine List.Perm.eq_of_pairwise (fun a b ha hb h1 h2 => ?_) (ord_pair h) (srt_sorted zs) (hp.trans (srt_perm zs).symm)
  exact place_inj (hz a (hp.mem_iff.1 ha)) (hz b (srt_mem.1 hb)) (by omega)
end Go.Proofs.Ytnmadkallkoadaa
