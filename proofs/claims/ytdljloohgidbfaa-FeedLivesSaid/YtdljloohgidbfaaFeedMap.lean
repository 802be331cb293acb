/-
  The feed's map as data.
-/
import Derived.Test.YtdljloohgidbfaaFeedAt
namespace Go.Proofs.Ytdljloohgidbfaa
open Go Go.RowKit Go.Mem

theorem key_same (a b : Nat) : (Lit.int .u64 (a : Int)).sameKey (.int .u64 (b : Int)) = decide (a = b) := by
  simp only [Lit.sameKey]
  by_cases h : a = b
  · subst h; simp
  · have : ¬ ((a : Int) = (b : Int)) := by omega
    simp [h, this]
theorem has_DM {rows : List Row} {kl : Lit} (h : Maps.has (DM rows) kl = true) : ∃ r ∈ rows, kl = .int .u64 r.id := by
  unfold DM Maps.has at h
  obtain ⟨p, hp, hk⟩ := List.any_eq_true.1 h
  obtain ⟨r, hr, rfl⟩ := List.mem_map.1 hp
  exact ⟨r, hr, (WideAt.sameKey_eq hk).symm⟩
theorem DM_has {rows : List Row} {r : Row} (h : r ∈ rows) : Maps.has (DM rows) (.int .u64 r.id) = true := by
  unfold DM Maps.has
  exact List.any_eq_true.2 ⟨_, List.mem_map.2 ⟨r, h, rfl⟩, by rw [key_same]; simp⟩
theorem at_DM {rows : List Row} (hi : rows.Pairwise fun r s => r.id < s.id) {r : Row} (h : r ∈ rows) (zd : DataW Unit) : (DM rows).atKey (.int .u64 r.id) zd = .lit (.int .u64 r.blk) := by
  unfold DM DataW.atKey
  simp only
  have key : ∀ l : List Row, l.Pairwise (fun r s => r.id < s.id) → r ∈ l → (l.map fun r => ((.int .u64 r.id, .lit (.int .u64 r.blk)) : Lit × DataW Unit)).find? (fun p => p.1.sameKey (.int .u64 r.id)) = some (.int .u64 r.id, .lit (.int .u64 r.blk)) := by
    intro l
    induction l with
    | nil => intro _ hr; cases hr
    | cons a t ih =>
      intro hp hr
      have hp := List.pairwise_cons.1 hp
      rw [List.map_cons, List.find?_cons]
      simp only [key_same]
      rcases List.mem_cons.1 hr with rfl | hr
      · simp
      · have : ¬ a.id = r.id := by have := hp.1 r hr; omega
        rw [decide_eq_false this]
        exact ih hp.2 hr
  rw [key rows hi h]
theorem miss_DM {rows : List Row} {x : Nat} (h : ∀ r ∈ rows, r.id ≠ x) (zd : DataW Unit) : (DM rows).atKey (.int .u64 x) zd = zd := by
  unfold DM DataW.atKey
  simp only
  rw [List.find?_eq_none.2]
  intro p hp
  obtain ⟨r, hr, rfl⟩ := List.mem_map.1 hp
  simp only [key_same, decide_eq_true_eq]
  exact h r hr
theorem size_DM (rows : List Row) : Maps.size (DM rows) = rows.length := by simp [DM, Maps.size]
/-- a row of that number, and what lies about it -/
theorem row_split {rows : List Row} {r : Row} (h : r ∈ rows) : ∃ A B, rows = A ++ r :: B := List.append_of_mem h

/-- a row's number, block, items, and how many were left out -/
def core (r : Row) : Nat × Nat × List It × Nat := (r.id, r.blk, r.items, r.lost)
def pushR (evs : List Ev) (r : Row) : Row := { r with items := (evs.foldl pushI (r.items, r.lost)).1, lost := (evs.foldl pushI (r.items, r.lost)).2 }
theorem foldl_le (evs : List Ev) : ∀ p : List It × Nat, p.1.length ≤ 16 → (evs.foldl pushI p).1.length ≤ 16 := by
  induction evs with
  | nil => intro p h; exact h
  | cons e r ih => intro p h; exact ih _ (pushI_le p e h)
theorem foldl_lost (evs : List Ev) : ∀ p : List It × Nat, (evs.foldl pushI p).2 ≤ p.2 + evs.length := by
  induction evs with
  | nil => intro p; simp
  | cons e r ih => intro p; rw [List.foldl_cons]; have := ih (pushI p e); have := pushI_lost p e; simp only [List.length_cons]; omega

/-- what is pushed to those whose key is no longer left -/
def half (evs : List Ev) (left : Lit → Bool) (r : Row) : Row := if left (.int .u64 r.id) then r else pushR evs r
/-- push to the row of one number, by its core -/
def coreT (evs : List Ev) (x : Nat) (c : Nat × Nat × List It × Nat) : Nat × Nat × List It × Nat :=
  if c.1 = x then (c.1, c.2.1, (evs.foldl pushI (c.2.2.1, c.2.2.2)).1, (evs.foldl pushI (c.2.2.1, c.2.2.2)).2) else c
theorem cores_turn {evs : List Ev} {left : Lit → Bool} {rows A B : List Row} {r r' : Row} (h : (A ++ r :: B).map core = (rows.map (half evs left)).map core) (hi : (A ++ r :: B).Pairwise fun a b => a.id < b.id)
    (hl : left (.int .u64 r.id) = true) (hr' : core r' = coreT evs r.id (core r)) :
    (A ++ r' :: B).map core = (rows.map (half evs fun z => left z && !z.sameKey (.int .u64 r.id))).map core := by
  have hp := List.pairwise_append.1 hi
  have hp2 := List.pairwise_cons.1 hp.2.1
  have e1 : (A ++ r' :: B).map core = ((A ++ r :: B).map core).map (coreT evs r.id) := by
    have ha : ∀ s ∈ A ++ B, coreT evs r.id (core s) = core s := fun s hs => by
      unfold coreT
      rw [if_neg]
      show ¬ s.id = r.id
      rcases List.mem_append.1 hs with hs | hs
      · have := hp.2.2 s hs r (by simp); omega
      · have := hp2.1 s hs; omega
    rw [List.map_append, List.map_cons, List.map_append, List.map_cons, List.map_append, List.map_cons, hr']
    congr 1
    · rw [List.map_map]; exact List.map_congr_left fun s hs => (ha s (List.mem_append.2 (.inl hs))).symm
    · congr 1
      rw [List.map_map]; exact List.map_congr_left fun s hs => (ha s (List.mem_append.2 (.inr hs))).symm
  rw [e1, h, List.map_map, List.map_map, List.map_map]
  refine List.map_congr_left fun s _ => ?_
  show coreT evs r.id (core (half evs left s)) = core (half evs _ s)
  by_cases hs : s.id = r.id
  · have e2 : half evs left s = s := by unfold half; rw [hs, hl]; rfl
    have e3 : half evs (fun z => left z && !z.sameKey (.int .u64 r.id)) s = pushR evs s := by unfold half; simp only [key_same, hs, decide_true, Bool.not_true, Bool.and_false]; rfl
    rw [e2, e3]
    unfold coreT
    rw [if_pos (show (core s).1 = r.id from hs)]
    rfl
  · have e3 : half evs (fun z => left z && !z.sameKey (.int .u64 r.id)) s = half evs left s := by unfold half; simp only [key_same, hs, decide_false, Bool.not_false, Bool.and_true]
    rw [e3]
    unfold coreT
    rw [if_neg]
    show ¬ (half evs left s).id = r.id
    unfold half; split <;> exact hs
end Go.Proofs.Ytdljloohgidbfaa
