/-
  Plain facts on what a gauge has behind a list of measures, and behind the same list turned round.
-/
import Derived.Test.YtnmadkallkoadaaFold
namespace Go.Proofs.Ytnmadkallkoadaa
open Go.RowKit Go.GMath

theorem V_of_place {a b : Nat} (ha : U64 a) (hb : U64 b) (h : place a ≤ place b) : V a ≤ V b := by
  have hk := K_of_place ha hb h
  have hc := compare_VK a b
  rcases Int.lt_or_le (V b) (V a) with h' | h'
  · rw [cmp_gt h'] at hc
    rcases Int.lt_or_eq_of_le hk with h2 | h2
    · rw [cmp_lt h2] at hc; cases hc
    · rw [cmp_eq h2] at hc; cases hc
  · exact h'
theorem ord_le_place {a b : Nat} : ord a b < 0 ↔ place a < place b := by
  constructor
  · intro h
    rcases Nat.lt_trichotomy (place a) (place b) with h1 | h1 | h1
    · exact h1
    · rw [ord_eq (by omega) (by omega)] at h; omega
    · rw [ord_gt h1] at h; omega
  · intro h; rw [ord_lt h]; omega
theorem ord_gt_place {a b : Nat} : 0 < ord a b ↔ place b < place a := by
  constructor
  · intro h
    rcases Nat.lt_trichotomy (place a) (place b) with h1 | h1 | h1
    · rw [ord_lt h1] at h; omega
    · rw [ord_eq (by omega) (by omega)] at h; omega
    · exact h1
  · intro h; rw [ord_gt h]; omega

/-- what a gauge has behind a list -/
structure Has (L : List Nat) (g : G) : Prop where
  c : g.c = (L.filter cntB).length
  d : g.c + g.d = L.length
  zero : g.c = 0 → g.l = 0 ∧ g.u = 0 ∧ g.s = 0
  lin : 0 < g.c → g.l ∈ L.filter cntB
  lle : ∀ x ∈ L.filter cntB, place g.l ≤ place x
  uin : 0 < g.c → g.u ∈ L.filter cntB
  ule : ∀ x ∈ L.filter cntB, place x ≤ place g.u
  vl : V g.l ≤ V g.s
  vu : V g.s ≤ V g.u

theorem has_zero : Has [] G.zero := ⟨rfl, rfl, fun _ => ⟨rfl, rfl, rfl⟩, fun h => absurd h (by decide), (fun x h => by cases h), fun h => absurd h (by decide), (fun x h => by cases h), Int.le_refl _, Int.le_refl _⟩

theorem has_step {L : List Nat} {g : G} {k x : Nat} (h : Has L g) (ok : g.OK k) (hx : U64 x) : Has (L ++ [x]) (g.step x) := by
  have hc := h.c
  have hd := h.d
  unfold G.step
  cases hcx : cntB x
  · simp only [Bool.false_eq_true, if_false]
    have e : (L ++ [x]).filter cntB = L.filter cntB := by rw [List.filter_append]; simp [hcx]
    refine ⟨by rw [e]; exact hc, by simp only [List.length_append, List.length_cons, List.length_nil]; omega, h.zero, ?_, ?_, ?_, ?_, h.vl, h.vu⟩ <;> rw [e]
    · exact h.lin
    · exact h.lle
    · exact h.uin
    · exact h.ule
  · simp only [if_true]
    have e : (L ++ [x]).filter cntB = L.filter cntB ++ [x] := by rw [List.filter_append]; simp [hcx]
    by_cases h0 : g.c = 0
    · rw [if_pos h0]
      have e2 : L.filter cntB = [] := List.eq_nil_of_length_eq_zero (by omega)
      rw [e2, List.nil_append] at e
      refine ⟨by rw [e]; rfl, by simp only [List.length_append, List.length_cons, List.length_nil]; omega, fun h => absurd h (by show ¬ 1 = 0; omega), fun _ => ?_, ?_, fun _ => ?_, ?_, Int.le_refl _, Int.le_refl _⟩ <;> rw [e]
      · exact List.mem_singleton.2 rfl
      · intro y hy; rw [List.mem_singleton.1 hy]; exact Nat.le_refl _
      · exact List.mem_singleton.2 rfl
      · intro y hy; rw [List.mem_singleton.1 hy]; exact Nat.le_refl _
    · rw [if_neg h0]
      have hl := ok.cl (by omega)
      have hu := ok.cu (by omega)
      have hs := ok.cs (by omega)
      have el := least_eq hl hcx
      have eu := greatest_eq hu hcx
      have pl : place (least g.l x) ≤ place g.l ∧ place (least g.l x) ≤ place x ∧ (least g.l x = x ∨ least g.l x = g.l) := by
        rw [el]
        by_cases ho : ord x g.l < 0
        · rw [if_pos ho]; have := ord_le_place.1 ho; exact ⟨by omega, Nat.le_refl _, .inl rfl⟩
        · rw [if_neg ho]; exact ⟨Nat.le_refl _, by rcases Nat.lt_or_ge (place x) (place g.l) with h1 | h1; exact absurd (ord_le_place.2 h1) ho; exact h1, .inr rfl⟩
      have pu : place g.u ≤ place (greatest g.u x) ∧ place x ≤ place (greatest g.u x) ∧ (greatest g.u x = x ∨ greatest g.u x = g.u) := by
        rw [eu]
        by_cases ho : 0 < ord x g.u
        · rw [if_pos ho]; have := ord_gt_place.1 ho; exact ⟨by omega, Nat.le_refl _, .inl rfl⟩
        · rw [if_neg ho]; exact ⟨Nat.le_refl _, by rcases Nat.lt_or_ge (place g.u) (place x) with h1 | h1; exact absurd (ord_gt_place.2 h1) ho; exact h1, .inr rfl⟩
      have ul' := least_U64 ok.ul hx
      have uu' := greatest_U64 ok.uu hx
      have vl1 := V_of_place ul' ok.ul pl.1
      have vl2 := V_of_place ul' hx pl.2.1
      have vu1 := V_of_place ok.uu uu' pu.1
      have vu2 := V_of_place hx uu' pu.2.1
      have h1 := h.vl
      have h2 := h.vu
      refine ⟨by rw [e]; simp only [List.length_append, List.length_cons, List.length_nil]; omega, by simp only [List.length_append, List.length_cons, List.length_nil]; omega, fun h => absurd h (by show ¬ g.c + 1 = 0; omega), fun _ => ?_, ?_, fun _ => ?_, ?_, ?_, ?_⟩
      · rw [e]
        show least g.l x ∈ _
        rcases pl.2.2 with h | h <;> rw [h]
        · simp
        · exact List.mem_append.2 (.inl (‹Has L g›.lin (by omega)))
      · rw [e]
        intro y hy
        show place (least g.l x) ≤ _
        rcases List.mem_append.1 hy with hy | hy
        · exact Nat.le_trans pl.1 (h.lle y hy)
        · rw [List.mem_singleton.1 hy]; exact pl.2.1
      · rw [e]
        show greatest g.u x ∈ _
        rcases pu.2.2 with h | h <;> rw [h]
        · simp
        · exact List.mem_append.2 (.inl (‹Has L g›.uin (by omega)))
      · rw [e]
        intro y hy
        show _ ≤ place (greatest g.u x)
        rcases List.mem_append.1 hy with hy | hy
        · exact Nat.le_trans (h.ule y hy) pu.1
        · rw [List.mem_singleton.1 hy]; exact pu.2.1
      · show V (least g.l x) ≤ V (if cntB (nxt g.s x) then nxt g.s x else x)
        by_cases hn : cntB (nxt g.s x) = true
        · rw [if_pos hn]
          rcases nxt_between hs hcx hn with ⟨a, b⟩ | ⟨a, b⟩ <;> omega
        · rw [if_neg hn]; exact vl2
      · show V (if cntB (nxt g.s x) then nxt g.s x else x) ≤ V (greatest g.u x)
        by_cases hn : cntB (nxt g.s x) = true
        · rw [if_pos hn]
          rcases nxt_between hs hcx hn with ⟨a, b⟩ | ⟨a, b⟩ <;> omega
        · rw [if_neg hn]; exact vu2

theorem has_all (zs : List Nat) (hz : ∀ x ∈ zs, U64 x) : Has zs (zs.foldl G.step G.zero) ∧ (zs.foldl G.step G.zero).OK zs.length := by
  have key : ∀ n, n ≤ zs.length → Has (zs.take n) ((zs.take n).foldl G.step G.zero) ∧ ((zs.take n).foldl G.step G.zero).OK n := by
    intro n
    induction n with
    | zero => intro _; exact ⟨has_zero, zero_ok⟩
    | succ n ih =>
      intro h
      obtain ⟨h1, h2⟩ := ih (by omega)
      rw [List.take_succ_eq_append_getElem (by omega), List.foldl_append]
      simp only [List.foldl_cons, List.foldl_nil]
      have hx := hz _ (List.getElem_mem (show n < zs.length by omega))
      exact ⟨has_step h1 h2 hx, step_ok h2 hx⟩
  have := key zs.length (Nat.le_refl _)
  rwa [List.take_length] at this

/-- two gauges of the same measures -/
theorem has_same {L L' : List Nat} {g g' : G} (hz : ∀ x ∈ L, U64 x) (h : Has L g) (h' : Has L' g') (hp : L.Perm L') : g.c = g'.c ∧ g.d = g'.d ∧ g.l = g'.l ∧ g.u = g'.u := by
  have hf : (L.filter cntB).Perm (L'.filter cntB) := hp.filter _
  have e1 : g.c = g'.c := by rw [h.c, h'.c, hf.length_eq]
  have e2 : g.d = g'.d := by have := h.d; have := h'.d; have := hp.length_eq; omega
  refine ⟨e1, e2, ?_, ?_⟩
  · by_cases h0 : g.c = 0
    · rw [(h.zero h0).1, (h'.zero (by omega)).1]
    · have m := h.lin (by omega)
      have m' := hf.mem_iff.2 (h'.lin (by omega))
      have a1 := h.lle _ m'
      have a2 := h'.lle _ (hf.mem_iff.1 m)
      exact place_inj (hz _ (List.mem_filter.1 m).1) (hz _ (List.mem_filter.1 m').1) (by omega)
  · by_cases h0 : g.c = 0
    · rw [(h.zero h0).2.1, (h'.zero (by omega)).2.1]
    · have m := h.uin (by omega)
      have m' := hf.mem_iff.2 (h'.uin (by omega))
      have a1 := h.ule _ m'
      have a2 := h'.ule _ (hf.mem_iff.1 m)
      exact place_inj (hz _ (List.mem_filter.1 m).1) (hz _ (List.mem_filter.1 m').1) (by omega)

/-- the list turned round -/
def turned (zs : List Nat) (m : Nat) : List Nat := (List.range zs.length).map fun i => zs.getD ((i + m) % zs.length) 0
theorem turned_length (zs : List Nat) (m : Nat) : (turned zs m).length = zs.length := by simp [turned]
theorem turned_eq (zs : List Nat) (m : Nat) (h : 0 < zs.length) : turned zs m = zs.drop (m % zs.length) ++ zs.take (m % zs.length) := by
  have hk := Nat.mod_lt m h
  apply List.ext_getElem
  · simp [turned]; omega
  · intro i h1 h2
    have hi : i < zs.length := by simpa [turned] using h1
    have e : (i + m) % zs.length = if i + m % zs.length < zs.length then i + m % zs.length else i + m % zs.length - zs.length := by
      rw [Nat.add_mod, Nat.mod_eq_of_lt hi]
      split
      · rename_i h3; exact Nat.mod_eq_of_lt h3
      · rename_i h3
        rw [Nat.mod_eq_sub_mod (by omega)]; exact Nat.mod_eq_of_lt (by omega)
    simp only [turned, List.getElem_map, List.getElem_range]
    rw [e]
    by_cases h3 : i + m % zs.length < zs.length
    · rw [if_pos h3, List.getElem_append_left (by simp; omega)]
      simp [List.getElem?_eq_getElem h3, Nat.add_comm]
    · rw [if_neg h3, List.getElem_append_right (by simp; omega)]
      have h4 : i + m % zs.length - zs.length < zs.length := by omega
      simp only [List.getD_eq_getElem?_getD, List.getElem?_eq_getElem h4, Option.getD_some, List.getElem_take, List.length_drop]
      congr 1
      omega
theorem turned_perm (zs : List Nat) (m : Nat) (h : 0 < zs.length) : zs.Perm (turned zs m) := by
  rw [turned_eq zs m h]
  have := List.perm_append_comm (l₁ := zs.take (m % zs.length)) (l₂ := zs.drop (m % zs.length))
  rwa [List.take_append_drop] at this

theorem and1023 (t : Int) : 0 ≤ bits .and .i64 t 1023 ∧ bits .and .i64 t 1023 ≤ 1023 := by
  have h1 : (BitVec.ofInt 64 (1023 : Int)).toNat = 1023 := by decide
  have h2 : (BitVec.ofInt 64 t &&& BitVec.ofInt 64 (1023 : Int)).toNat ≤ 1023 := by
    rw [BitVec.toNat_and, h1]; exact Nat.and_le_right
  have e : bits .and .i64 t 1023 = (((BitVec.ofInt 64 t &&& BitVec.ofInt 64 (1023 : Int)).toNat : Nat) : Int) :=
    IntWalk.i64_in (((BitVec.ofInt 64 t &&& BitVec.ofInt 64 (1023 : Int)).toNat : Nat) : Int) ⟨by omega, by omega⟩
  rw [e]
  exact ⟨by omega, by omega⟩
end Go.Proofs.Ytnmadkallkoadaa
