/-
  A feed and the document's side by side.
-/
import Derived.Test.YtdljloohgidbfaaFeedMore
import Derived.Test.YtdljloohgidbfaaRefSame
import Derived.Test.YtdljloohgidbfaaGapsW
namespace Go.Proofs.Ytdljloohgidbfaa
open Go Go.RowKit Go.Mem Go.Args

/-! ### the calls, whether there is such a watcher or not -/
def watchF (F : Nat × List AR) : Nat × List AR := if F.2.length < 8 then (F.1 + 1, F.2 ++ [(F.1 + 1, [], 0)]) else F
def watchId (F : Nat × List AR) : Int := if F.2.length < 8 then (F.1 : Int) + 1 else 0
def watchErr (F : Nat × List AR) : Int := if F.2.length < 8 then 0 else 5
def hasF (F : Nat × List AR) (x : Nat) : Bool := F.2.any fun a => a.1 == x
def goneF (F : Nat × List AR) (x : Nat) : Nat × List AR := (F.1, gone x F.2)
def waitsF (F : Nat × List AR) (x : Nat) : Int := match F.2.find? fun a => a.1 == x with | some a => waitsI a.2 | none => 0
def takenF (F : Nat × List AR) (x : Nat) (n : Int) : List It := match F.2.find? fun a => a.1 == x with | some a => (takeI a.2 n).1 | none => []
def takeErr (F : Nat × List AR) (x : Nat) : Int := match F.2.find? fun a => a.1 == x with | some _ => 0 | none => 4
def takeF (F : Nat × List AR) (x : Nat) (n : Int) : Nat × List AR := (F.1, F.2.map (takeA x n))

theorem find_cases (F : Nat × List AR) (x : Nat) : (∃ a ∈ F.2, a.1 = x ∧ (F.2.find? fun a => a.1 == x) = some a) ∨ ((∀ a ∈ F.2, a.1 ≠ x) ∧ (F.2.find? fun a => a.1 == x) = none) := by
  cases h : F.2.find? fun a => a.1 == x with
  | some a =>
    have h1 := List.find?_some h
    exact .inl ⟨a, List.mem_of_find?_eq_some h, by simpa using h1, rfl⟩
  | none =>
    have h1 := List.find?_eq_none.1 h
    exact .inr ⟨fun a ha => by simpa using h1 a ha, rfl⟩
theorem gone_none {F : Nat × List AR} {x : Nat} (h : ∀ a ∈ F.2, a.1 ≠ x) : goneF F x = F := by
  unfold goneF gone
  rw [List.filter_eq_self.2 fun a ha => by simpa using h a ha]
theorem take_none' {F : Nat × List AR} {x : Nat} (n : Int) (h : ∀ a ∈ F.2, a.1 ≠ x) : takeF F x n = F := by
  unfold takeF
  have : F.2.map (takeA x n) = F.2 := by
    conv => rhs; rw [← List.map_id F.2]
    exact List.map_congr_left fun a ha => by unfold takeA; rw [if_neg (h a ha)]; rfl
  rw [this]
theorem has_true {F : Nat × List AR} {x : Nat} {a : AR} (ha : a ∈ F.2) (hx : a.1 = x) : hasF F x = true := List.any_eq_true.2 ⟨a, ha, by simp [hx]⟩
theorem has_false {F : Nat × List AR} {x : Nat} (h : ∀ a ∈ F.2, a.1 ≠ x) : hasF F x = false := by
  unfold hasF
  rw [List.any_eq_false]
  intro a ha; simpa using h a ha

section
variable {w : World} {p : Value} {F : Nat × List AR} {S : Nat → Prop}

theorem watch_all (h : IsFeed w p F S) (hl : F.1 + 1 < 1000000) :
    Calls Try.prog 9 #[p] w fun e w' => e = .returned (.tuple #[.int .u64 (watchId F), .int .i64 (watchErr F)]) ∧ ∃ S', IsFeed w' p (watchF F) S' ∧ (∀ k, S' k → S k ∨ w.heap.size ≤ k) ∧ Chg S w w' := by
  unfold watchF watchId watchErr
  by_cases hn : F.2.length < 8
  · simp only [hn, if_true]
    exact watch_is h hn hl
  · simp only [hn, if_false]
    obtain ⟨fb, mb, rows, rfl, hf, hF, hS⟩ := id h
    refine (watch_full fb mb F.1 rows w hf (by rw [← List.length_map (f := absR), hF]; omega)).mono ?_
    rintro e w' ⟨rfl, rfl⟩
    exact ⟨rfl, S, h, fun k hk => .inl hk, Chg.refl _ _⟩
theorem rwatch_all (h : IsRef w p F S) (hl : F.1 + 1 < 1000000) :
    Calls Try.prog 16 #[p] w fun e w' => e = .returned (.tuple #[.int .u64 (watchId F), .int .i64 (watchErr F)]) ∧ ∃ S', IsRef w' p (watchF F) S' ∧ (∀ k, S' k → S k ∨ w.heap.size ≤ k) ∧ Chg S w w' := by
  unfold watchF watchId watchErr
  by_cases hn : F.2.length < 8
  · simp only [hn, if_true]
    exact rwatch_is h hn hl
  · simp only [hn, if_false]
    refine (rwatch_no h (by omega)).mono ?_
    rintro e w' ⟨rfl, rfl⟩
    exact ⟨rfl, S, h, fun k hk => .inl hk, Chg.refl _ _⟩
theorem leave_all (h : IsFeed w p F S) (x : Nat) (hx : x < 18446744073709551616) :
    Calls Try.prog 17 #[p, .int .u64 x] w fun e w' => e = .returned (.bool (hasF F x)) ∧ ∃ S', IsFeed w' p (goneF F x) S' ∧ (∀ k, S' k → S k ∨ w.heap.size ≤ k) ∧ Chg S w w' := by
  obtain ⟨fb, mb, rows, rfl, hf, hF, hS⟩ := id h
  rcases find_cases F x with ⟨a, ha, rfl, _⟩ | ⟨hno, _⟩
  · rw [has_true ha rfl]
    rw [← hF] at ha
    obtain ⟨r, hr, rfl⟩ := List.mem_map.1 ha
    obtain ⟨A, B, rfl⟩ := row_split hr
    refine (leave_walk fb mb F.1 A B r w hf).mono ?_
    rintro e w' ⟨rfl, h1, h2⟩
    refine ⟨rfl, _, ⟨fb, mb, _, rfl, h1, ?_, fun _ => Iff.rfl⟩, fun k hk => .inl ((hS k).2 ?_), h2.mono fun k _ h => (hS k).2 (.inr (.inl h))⟩
    · show (A ++ B).map absR = gone _ F.2
      rw [← hF, List.map_append, List.map_append, List.map_cons]
      refine (gone_split ?_).symm
      have h4 := (List.pairwise_map (f := absR) (R := fun r s : AR => r.1 < s.1)).2 hf.ids
      rw [List.map_append, List.map_cons] at h4
      exact h4
    · rcases hk with hk | hk | ⟨s, hs, hk⟩
      · exact .inl hk
      · exact .inr (.inl hk)
      · exact .inr (.inr ⟨s, mem_drop hs, hk⟩)
  · rw [has_false hno, gone_none hno]
    refine (leave_none fb mb F.1 rows x w hf hx fun r hr => hno _ (by rw [← hF]; exact List.mem_map.2 ⟨r, hr, rfl⟩)).mono ?_
    rintro e w' ⟨rfl, rfl⟩
    exact ⟨rfl, S, h, fun k hk => .inl hk, Chg.refl _ _⟩
theorem rleave_all (h : IsRef w p F S) (x : Nat) :
    Calls Try.prog 18 #[p, .int .u64 x] w fun e w' => e = .returned (.bool (hasF F x)) ∧ ∃ S', IsRef w' p (goneF F x) S' ∧ (∀ k, S' k → S k ∨ w.heap.size ≤ k) ∧ Chg S w w' := by
  rcases find_cases F x with ⟨a, ha, rfl, _⟩ | ⟨hno, _⟩
  · rw [has_true ha rfl]
    exact rleave_is h a ha
  · rw [has_false hno, gone_none hno]
    refine (rleave_no h x hno).mono ?_
    rintro e w' ⟨rfl, rfl⟩
    exact ⟨rfl, S, h, fun k hk => .inl hk, Chg.refl _ _⟩
theorem waits_all (h : IsFeed w p F S) (x : Nat) (hx : x < 18446744073709551616) :
    Calls Try.prog 14 #[p, .int .u64 x] w fun e w' => e = .returned (.int .i64 (waitsF F x)) ∧ w' = w := by
  unfold waitsF
  rcases find_cases F x with ⟨a, ha, rfl, hf⟩ | ⟨hno, hf⟩
  · rw [hf]; exact waits_is h a ha
  · rw [hf]
    obtain ⟨fb, mb, rows, rfl, hf, hF, hS⟩ := h
    exact waits_none fb mb F.1 rows x w hf hx fun r hr => hno _ (by rw [← hF]; exact List.mem_map.2 ⟨r, hr, rfl⟩)
theorem rwaits_all (h : IsRef w p F S) (x : Nat) :
    Calls Try.prog 25 #[p, .int .u64 x] w fun e w' => e = .returned (.int .i64 (waitsF F x)) ∧ w' = w := by
  unfold waitsF
  rcases find_cases F x with ⟨a, ha, rfl, hf⟩ | ⟨hno, hf⟩
  · rw [hf]; exact rwaits_is h a ha
  · rw [hf]; exact rwaits_no h x hno
theorem take_allF (h : IsFeed w p F S) (x : Nat) (hx : x < 18446744073709551616) (n : Int) :
    Calls Try.prog 12 #[p, .int .u64 x, .int .i64 n] w fun e w' => ∃ v, e = .returned (.tuple #[v, .int .i64 (takeErr F x)]) ∧ Sl w' 40 35 v ((takenF F x n).map It.cells) ∧ (∀ k, v.ownBlock = some k → w.heap.size ≤ k) ∧ ∃ S', IsFeed w' p (takeF F x n) S' ∧ (∀ k, S' k → S k) ∧ Chg S w w' := by
  unfold takeErr takenF
  rcases find_cases F x with ⟨a, ha, rfl, hf⟩ | ⟨hno, hf⟩
  · rw [hf]; exact take_is_s h a ha n
  · rw [hf]
    refine (take_no h x hx hno n).mono ?_
    rintro e w' ⟨rfl, rfl⟩
    exact ⟨_, rfl, Sl.nil _ _ _, fun k hk => by simp [Value.ownBlock] at hk, S, by rw [take_none' n hno]; exact h, fun k hk => hk, Chg.refl _ _⟩
theorem rtake_allF (h : IsRef w p F S) (x : Nat) (n : Int) :
    Calls Try.prog 21 #[p, .int .u64 x, .int .i64 n] w fun e w' => ∃ v, e = .returned (.tuple #[v, .int .i64 (takeErr F x)]) ∧ Sl w' 80 35 v ((takenF F x n).map It.cells) ∧ (∀ k, v.ownBlock = some k → w.heap.size ≤ k) ∧ ∃ S', IsRef w' p (takeF F x n) S' ∧ (∀ k, S' k → S k ∨ w.heap.size ≤ k) ∧ Chg S w w' := by
  unfold takeErr takenF
  rcases find_cases F x with ⟨a, ha, rfl, hf⟩ | ⟨hno, hf⟩
  · rw [hf]; exact rtake_is h a ha n
  · rw [hf]
    refine (rtake_no h x hno n).mono ?_
    rintro e w' ⟨rfl, rfl⟩
    exact ⟨_, rfl, Sl.nil _ _ _, fun k hk => by simp [Value.ownBlock] at hk, S, by rw [take_none' n hno]; exact h, fun k hk => .inl hk, Chg.refl _ _⟩
theorem watchers_is (h : IsFeed w p F S) (hn : F.2.length ≤ 8) :
    Calls Try.prog 24 #[p] w fun e w' => ∃ v, e = .returned v ∧ Sl w' 25 1 v (F.2.map fun a : AR => [Value.int .u64 (a.1 : Int)]) ∧ (∀ k, v.ownBlock = some k → w.heap.size ≤ k) ∧ Chg (fun _ => False) w w' := by
  obtain ⟨fb, mb, rows, rfl, hf, hF, hS⟩ := h
  have := watchers_walk fb mb F.1 rows w hf (by rw [← List.length_map (f := absR), hF]; exact hn)
  rw [← hF, List.map_map]
  rw [List.map_map] at this
  exact this
end

/-! ### the document's feed, looked into -/
theorem ref_open {W : World} {xb : Nat} {F : Nat × List AR} {T : Nat → Prop} (h : IsRef W (.pointer (some ⟨xb, 0, none⟩)) F T) :
    ∃ a c, W.cell? ⟨xb, 0, none⟩ = some (.slice a F.2.length c) ∧ F.2.length ≤ 8 ∧ ∀ j y, F.2[j]? = some y → ∃ g o, a = some ⟨g, o, none⟩ ∧ W.cell? ⟨g, o + j * 3, none⟩ = some (.int .u64 y.1) := by
  obtain ⟨xb', sv, rows, he, hf, hF, hS⟩ := h
  have e1 : xb = xb' := by injection he with he; injection he with he; injection he
  subst e1
  obtain ⟨a, c, hsv, _⟩ := Sl.shape2 hf.sl
  have hlen : F.2.length = rows.length := by rw [← hF, List.length_map]
  rw [List.length_map, ← hlen] at hsv
  subst hsv
  refine ⟨a, c, by simp [World.cell?, hf.cell], by rw [hlen]; exact hf.num, fun j y hy => ?_⟩
  rw [← hF, List.getElem?_map] at hy
  obtain ⟨r, hr, rfl⟩ := Option.map_eq_some_iff.1 hy
  have hsl := hf.sl
  have hsp := split_at hr
  have hlt : (rows.take j).length = j := by rw [List.length_take]; have := (List.getElem?_eq_some_iff.1 hr).1; omega
  rw [hsp] at hsl
  obtain ⟨g, o, rfl⟩ := row_some hsl
  obtain ⟨k0, _, _⟩ := row_cells hsl
  rw [hlt] at k0
  exact ⟨g, o, rfl, k0⟩
theorem ref_new (w : World) : IsRef (w.alloc (.cells #[.slice none 0 0, .int .u64 0] 53)) (.pointer (some ⟨w.heap.size, 0, none⟩)) (0, []) (fun k => k = w.heap.size) := by
  refine ⟨w.heap.size, .slice none 0 0, [], rfl, ⟨heap_alloc_new _ _, Sl.nil _ _ _, fun _ h => (by cases h), .nil, .nil, fun _ h => (by cases h), by decide, fun _ h => (by cases h), by simp⟩, rfl, fun k => ?_⟩
  unfold RFoot
  simp [Value.ownBlock]

/-! ### side by side -/
structure Duo (w W Wb : World) (prot : Nat → Prop) (p x : Value) (F G : Nat × List AR) (S T : Nat → Prop) : Prop where
  a : IsFeed W p F S
  b : IsRef W x G T
  d : ∀ k, S k → ¬ T k
  new : ∀ k, S k ∨ T k → w.heap.size ≤ k
  chg : Chg (fun _ => False) w W
  kept : ∀ k, prot k → ¬ S k ∧ ¬ T k ∧ k < W.heap.size ∧ W.heap[k]? = Wb.heap[k]?
section
variable {w W W' Wb : World} {prot : Nat → Prop} {p x : Value} {F G : Nat × List AR} {S T : Nat → Prop}

theorem Duo.stepA (h : Duo w W Wb prot p x F G S T) {F' : Nat × List AR} {S' : Nat → Prop} (h1 : IsFeed W' p F' S') (h2 : ∀ k, S' k → S k ∨ W.heap.size ≤ k) (h3 : Chg S W W') : Duo w W' Wb prot p x F' G S' T := by
  refine ⟨h1, h.b.keep h3 fun k hk hk' => h.d k hk' hk, fun k hk h' => ?_, fun k hk => ?_, h.chg.trans (h3.mono fun k _ hk => .inr (h.new k (.inl hk))), fun k hk => ?_⟩
  · rcases h2 k hk with h4 | h4
    · exact h.d k h4 h'
    · have := h.b.lt h'; omega
  · rcases hk with hk | hk
    · rcases h2 k hk with h4 | h4
      · exact h.new k (.inl h4)
      · exact Nat.le_trans h.chg.size h4
    · exact h.new k (.inr hk)
  · obtain ⟨k1, k2, k3, k4⟩ := h.kept k hk
    exact ⟨fun h' => by rcases h2 k h' with h4 | h4; exact k1 h4; omega, k2, Nat.lt_of_lt_of_le k3 h3.size, (h3.block k k3 k1).trans k4⟩
theorem Duo.stepB (h : Duo w W Wb prot p x F G S T) {G' : Nat × List AR} {T' : Nat → Prop} (h1 : IsRef W' x G' T') (h2 : ∀ k, T' k → T k ∨ W.heap.size ≤ k) (h3 : Chg T W W') : Duo w W' Wb prot p x F G' S T' := by
  refine ⟨h.a.keep h3 h.d, h1, fun k hk h' => ?_, fun k hk => ?_, h.chg.trans (h3.mono fun k _ hk => .inr (h.new k (.inr hk))), fun k hk => ?_⟩
  · rcases h2 k h' with h4 | h4
    · exact h.d k hk h4
    · have := h.a.lt hk; omega
  · rcases hk with hk | hk
    · exact h.new k (.inl hk)
    · rcases h2 k hk with h4 | h4
      · exact h.new k (.inr h4)
      · exact Nat.le_trans h.chg.size h4
  · obtain ⟨k1, k2, k3, k4⟩ := h.kept k hk
    exact ⟨k1, fun h' => by rcases h2 k h' with h4 | h4; exact k2 h4; omega, Nat.lt_of_lt_of_le k3 h3.size, (h3.block k k3 k2).trans k4⟩
theorem Duo.stepN (h : Duo w W Wb prot p x F G S T) (h3 : Chg (fun _ => False) W W') : Duo w W' Wb prot p x F G S T :=
  ⟨h.a.keep h3 fun _ _ h => h, h.b.keep h3 fun _ _ h => h, h.d, h.new, h.chg.trans (h3.mono fun _ _ h => h.elim), fun k hk => by
    obtain ⟨k1, k2, k3, k4⟩ := h.kept k hk
    exact ⟨k1, k2, Nat.lt_of_lt_of_le k3 h3.size, (h3.block k k3 id).trans k4⟩⟩
/-- blocks that are neither's have turned -/
theorem Duo.stepO (h : Duo w W Wb prot p x F G S T) {U : Nat → Prop} (h3 : Chg U W W') (hu : ∀ k, U k → ¬ S k ∧ ¬ T k ∧ w.heap.size ≤ k) : Duo w W' W' (fun _ => False) p x F G S T :=
  ⟨h.a.keep h3 fun k hk h' => (hu k h').1 hk, h.b.keep h3 fun k hk h' => (hu k h').2.1 hk, h.d, h.new, h.chg.trans (h3.mono fun k _ hk => .inr (hu k hk).2.2), fun _ hk => hk.elim⟩
/-- other blocks are kept from here on -/
theorem Duo.guard (h : Duo w W Wb prot p x F G S T) {pr : Nat → Prop} (hp : ∀ k, pr k → (¬ S k ∧ ¬ T k ∧ k < W.heap.size) ∨ prot k) : Duo w W W pr p x F G S T :=
  ⟨h.a, h.b, h.d, h.new, h.chg, fun k hk => by
    rcases hp k hk with ⟨h1, h2, h3⟩ | h1
    · exact ⟨h1, h2, h3, rfl⟩
    · obtain ⟨k1, k2, k3, _⟩ := h.kept k h1
      exact ⟨k1, k2, k3, rfl⟩⟩
/-- what came of neither is neither's -/
theorem Duo.fresh (h : Duo w W Wb prot p x F G S T) {k : Nat} (hk : W.heap.size ≤ k) : ¬ S k ∧ ¬ T k :=
  ⟨fun h' => by have := h.a.lt h'; omega, fun h' => by have := h.b.lt h'; omega⟩
end

/-- the bounds after k rounds -/
structure Bnd (F : Nat × List AR) (k : Nat) : Prop where
  last : F.1 ≤ k
  len : F.2.length ≤ 8
  lost : ∀ a ∈ F.2, a.2.2 ≤ 40 * k
theorem Bnd.watch {F : Nat × List AR} {k : Nat} (h : Bnd F k) : Bnd (watchF F) (k + 1) := by
  unfold watchF
  split
  · refine ⟨by have := h.last; simp only; omega, by simp; omega, fun a ha => ?_⟩
    rcases List.mem_append.1 ha with ha | ha
    · have := h.lost a ha; omega
    · rw [List.mem_singleton.1 ha]; simp
  · exact ⟨by have := h.last; omega, h.len, fun a ha => by have := h.lost a ha; omega⟩
theorem Bnd.up {F : Nat × List AR} {k : Nat} (h : Bnd F k) : Bnd F (k + 1) := ⟨by have := h.last; omega, h.len, fun a ha => by have := h.lost a ha; omega⟩
theorem Bnd.leave {F : Nat × List AR} {k : Nat} (h : Bnd F k) (x : Nat) : Bnd (goneF F x) (k + 1) := by
  refine ⟨by have := h.last; show F.1 ≤ _; omega, Nat.le_trans (List.length_filter_le _ _) h.len, fun a ha => ?_⟩
  have := h.lost a (List.mem_filter.1 ha).1
  omega
theorem Bnd.push {F : Nat × List AR} {k : Nat} (h : Bnd F k) (es : List Ev) (hn : es.length ≤ 40) : Bnd (F.1, F.2.map (pushA es)) (k + 1) := by
  refine ⟨by have := h.last; show F.1 ≤ _; omega, by simp only [List.length_map]; exact h.len, fun a ha => ?_⟩
  obtain ⟨b, hb, rfl⟩ := List.mem_map.1 ha
  have h1 := foldl_lost es b.2
  have h2 := h.lost b hb
  show (es.foldl pushI b.2).2 ≤ _
  omega
theorem take_lost' (q : List It × Nat) (n : Int) : (takeI q n).2.2 ≤ q.2 := by
  unfold takeI; split
  · simp
  · exact Nat.le_refl _
theorem Bnd.take {F : Nat × List AR} {k : Nat} (h : Bnd F k) (x : Nat) (n : Int) : Bnd (takeF F x n) (k + 1) := by
  refine ⟨by have := h.last; show F.1 ≤ _; omega, by unfold takeF; simp only [List.length_map]; exact h.len, fun a ha => ?_⟩
  obtain ⟨b, hb, rfl⟩ := List.mem_map.1 ha
  have h2 := h.lost b hb
  unfold takeA
  split
  · have := take_lost' b.2 n
    show (takeI b.2 n).2.2 ≤ _
    omega
  · omega
theorem taken_short {w : World} {p : Value} {F : Nat × List AR} {S : Nat → Prop} (h : IsFeed w p F S) (x : Nat) (n : Int) : (takenF F x n).length ≤ 17 := by
  obtain ⟨fb, mb, rows, rfl, hf, hF, hS⟩ := h
  unfold takenF
  rcases find_cases F x with ⟨a, ha, rfl, hq⟩ | ⟨hno, hq⟩
  · rw [hq]
    rw [← hF] at ha
    obtain ⟨r, hr, rfl⟩ := List.mem_map.1 ha
    have := hf.few r hr
    simp only
    unfold takeI
    split
    · simp [absR]; omega
    · simp only [List.length_take, absR]; omega
  · rw [hq]; simp
end Go.Proofs.Ytdljloohgidbfaa
