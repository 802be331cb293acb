/-
  A feed in memory, and what keeps it.
-/
import Derived.Test.YtdljloohgidbfaaClone
namespace Go.Proofs.Ytdljloohgidbfaa
open Go Go.RowKit Go.Mem

/-- a watcher: its number, its row's block, its slice, its items, how many were left out -/
structure Row where
  id : Nat
  blk : Nat
  sv : Value
  items : List It
  lost : Nat
/-- how a pointer to a row reads -/
def ptrR (v : Value) : Option (DataW Unit × List MemPlace) :=
  match v with
  | .pointer none => some (.lit (.bool false), [])
  | .pointer (some a) => if a.off = 0 ∧ a.spot.isNone = true then some (.lit (.int .u64 a.block), []) else none
  | _ => none
theorem ptrR_mk (b : Nat) : ptrR (.pointer (some ⟨b, 0, none⟩)) = some (.lit (.int .u64 b), []) := by simp [ptrR]
theorem ptrR_inv {v : Value} {b : Nat} {ps : List MemPlace} (h : ptrR v = some (.lit (.int .u64 b), ps)) : v = .pointer (some ⟨b, 0, none⟩) := by
  unfold ptrR at h
  split at h
  · simp at h
  · rename_i a
    split at h
    · rename_i hc
      simp at h
      obtain ⟨bb, o, s⟩ := a
      obtain ⟨h1, h2⟩ := hc
      simp at h1 h2
      subst h1 h2
      simp at h
      obtain ⟨h1, _⟩ := h
      obtain rfl : bb = b := by omega
      rfl
    · cases h
  · cases h
theorem ptrR_nil {v : Value} {ps : List MemPlace} (h : ptrR v = some (.lit (.bool false), ps)) : v = .pointer none := by
  unfold ptrR at h
  split at h
  · rfl
  · split at h <;> simp at h
  · cases h
def DM (rows : List Row) : DataW Unit := .map (rows.map fun r => (.int .u64 r.id, .lit (.int .u64 r.blk)))

/-- two rows share nothing -/
def Apart (r s : Row) : Prop := r.blk ≠ s.blk ∧ ∀ k, r.sv.ownBlock = some k → s.sv.ownBlock ≠ some k

structure FeedRows (w : World) (fb mb last : Nat) (rows : List Row) : Prop where
  feed : w.heap[fb]? = some (.cells #[.map (some mb), .int .u64 last] 70)
  map : w.ownsMap Try.prog 25 ptrR mb rows.length (DM rows)
  row : ∀ r ∈ rows, RowAt w r.blk r.sv r.items r.lost
  apart : rows.Pairwise Apart
  ids : rows.Pairwise fun r s => r.id < s.id
  upto : ∀ r ∈ rows, r.id ≤ last
  big : last < 1000000
  few : ∀ r ∈ rows, r.items.length ≤ 16

/-- the blocks that are a feed's -/
def Foot (fb mb : Nat) (rows : List Row) (k : Nat) : Prop := k = fb ∨ k = mb ∨ ∃ r ∈ rows, k = r.blk ∨ r.sv.ownBlock = some k

theorem ownsMap_chg {w w' : World} {P : Program} {k : TypeId} {R : Value → Option (DataW Unit × List MemPlace)} {b n : Nat} {D : DataW Unit} {S : Nat → Prop} (h : w.ownsMap P k R b n D) (c : Chg S w w') (hb : ¬ S b) : w'.ownsMap P k R b n D := by
  obtain ⟨es, clock, hb', r⟩ := h
  exact ⟨es, clock, c.at hb' hb, r⟩
theorem ranges_chg {w w' : World} {P : Program} {k : TypeId} {R : Value → Option (DataW Unit × List MemPlace)} {b r n : Nat} {D : DataW Unit} {left : Lit → Bool} {cnt : Nat} {S : Nat → Prop} (h : w.ranges P k R b r n D left cnt) (c : Chg S w w') (hb : ¬ S b) (hr : ¬ S r) : w'.ranges P k R b r n D left cnt := by
  obtain ⟨es, clock, since, seen, c0, hb', F, hs, hD, hr', rest⟩ := h
  exact ⟨es, clock, since, seen, c0, c.at hb' hb, F, hs, hD, c.at hr' hr, rest⟩
theorem RowAt.chg {w w' : World} {blk : Nat} {sv : Value} {items : List It} {lost : Nat} {S : Nat → Prop} (h : RowAt w blk sv items lost) (c : Chg S w w') (hb : ¬ S blk) (hs : ∀ k, sv.ownBlock = some k → ¬ S k) : RowAt w' blk sv items lost :=
  ⟨c.at h.cell hb, h.sl.chg c hs⟩
/-- what a row's block, a slice's, the feed's and the map's hold is unlike -/
theorem own_row {w : World} {e sz : Nat} {sv : Value} {xs : List (List Value)} (h : Sl w e sz sv xs) {b : Nat} {c : Array Value} {t : Nat} (hb : w.heap[b]? = some (.cells c t)) (ht : e ≠ t) : sv.ownBlock ≠ some b := by
  intro hk
  rcases h.2 with ⟨hv, _⟩ | ⟨g, o, cap, cur, hv, hg, _⟩
  · rw [hv] at hk; simp [Value.ownBlock] at hk
  · rw [hv] at hk; simp [Value.ownBlock] at hk; subst hk
    rw [hb] at hg; cases hg; exact ht rfl
theorem own_map {w : World} {e sz : Nat} {sv : Value} {xs : List (List Value)} (h : Sl w e sz sv xs) {b n : Nat} {D : DataW Unit} (hb : w.ownsMap Try.prog 25 ptrR b n D) : sv.ownBlock ≠ some b := by
  intro hk
  obtain ⟨es, clock, hb', _⟩ := hb
  rcases h.2 with ⟨hv, _⟩ | ⟨g, o, cap, cur, hv, hg, _⟩
  · rw [hv] at hk; simp [Value.ownBlock] at hk
  · rw [hv] at hk; simp [Value.ownBlock] at hk; subst hk
    rw [hb'] at hg; cases hg
theorem cells_map {w : World} {b b' n : Nat} {D : DataW Unit} {c : Array Value} {t : Nat} {fr : Nat × Nat} (h : w.heap[b']? = some (.cells c t fr)) (hb : w.ownsMap Try.prog 25 ptrR b n D) : b' ≠ b := by
  intro e
  subst e
  obtain ⟨es, clock, hb', _⟩ := hb
  rw [hb'] at h; cases h

/-- one row turned -/
theorem FeedRows.turn {w w' : World} {fb mb last : Nat} {A B : List Row} {r : Row} (h : FeedRows w fb mb last (A ++ r :: B)) (sv : Value) (items : List It) (lost : Nat) (hrow : RowAt w' r.blk sv items lost) (hn : items.length ≤ 16)
    (c : Chg (fun k => k = r.blk ∨ r.sv.ownBlock = some k) w w') (ho : sv.ownBlock = r.sv.ownBlock ∨ ∃ k, sv.ownBlock = some k ∧ w.heap.size ≤ k) :
    FeedRows w' fb mb last (A ++ { r with sv := sv, items := items, lost := lost } :: B) := by
  have hr := h.row r (by simp)
  have hfb : ¬ (fb = r.blk ∨ r.sv.ownBlock = some fb) := by
    rintro (e | e)
    · have := h.feed; rw [e, hr.cell] at this; simp at this
    · exact own_row hr.sl h.feed (by decide) e
  have hmb : ¬ (mb = r.blk ∨ r.sv.ownBlock = some mb) := by
    rintro (e | e)
    · exact cells_map hr.cell h.map e.symm
    · exact own_map hr.sl h.map e
  have hmem : ∀ s, s ∈ A ++ B → s ∈ A ++ r :: B := fun s hs => by
    rcases List.mem_append.1 hs with hs | hs
    · exact List.mem_append.2 (.inl hs)
    · exact List.mem_append.2 (.inr (List.mem_cons_of_mem _ hs))
  have hap := List.pairwise_append.1 h.apart
  have hap2 := List.pairwise_cons.1 hap.2.1
  have hkeep : ∀ s, s ∈ A ++ B → RowAt w' s.blk s.sv s.items s.lost := by
    intro s hs
    have hs1 := h.row s (hmem s hs)
    have hne : s.blk ≠ r.blk ∧ ∀ k, r.sv.ownBlock = some k → s.sv.ownBlock ≠ some k := by
      rcases List.mem_append.1 hs with hs | hs
      · have := hap.2.2 s hs r (by simp)
        exact ⟨this.1, fun k hk hk' => this.2 k hk' hk⟩
      · have := hap2.1 s hs
        exact ⟨fun e => this.1 e.symm, this.2⟩
    refine hs1.chg c ?_ fun k hk => ?_
    · rintro (e | e)
      · exact hne.1 e
      · exact own_row hr.sl hs1.cell (by decide) e
    · rintro (e | e)
      · subst e; exact own_row hs1.sl hr.cell (by decide) hk
      · exact hne.2 k e hk
  have hown : ∀ s, s ∈ A ++ B → ∀ k, s.sv.ownBlock = some k → sv.ownBlock ≠ some k := by
    intro s hs k hk hk'
    rcases ho with ho | ⟨k', hk2, hl⟩
    · rw [ho] at hk'
      rcases List.mem_append.1 hs with hs | hs
      · exact (hap.2.2 s hs r (by simp)).2 k hk hk'
      · exact (hap2.1 s hs).2 k hk' hk
    · rw [hk2] at hk'; cases hk'
      have := (h.row s (hmem s hs)).sl.lt hk
      omega
  refine ⟨c.at h.feed hfb, ?_, ?_, ?_, ?_, ?_, h.big, ?_⟩
  · have := ownsMap_chg h.map c hmb
    simpa [DM] using this
  · intro s hs
    rcases List.mem_append.1 hs with hs | hs
    · exact hkeep s (List.mem_append.2 (.inl hs))
    · rcases List.mem_cons.1 hs with rfl | hs
      · exact hrow
      · exact hkeep s (List.mem_append.2 (.inr hs))
  · refine List.pairwise_append.2 ⟨hap.1, List.pairwise_cons.2 ⟨fun s hs => ?_, hap2.2⟩, fun s hs t ht => ?_⟩
    · exact ⟨(hap2.1 s hs).1, fun k hk hk' => hown s (List.mem_append.2 (.inr hs)) k hk' hk⟩
    · rcases List.mem_cons.1 ht with rfl | ht
      · exact ⟨(hap.2.2 s hs r (by simp)).1, fun k hk => hown s (List.mem_append.2 (.inl hs)) k hk⟩
      · exact hap.2.2 s hs t (List.mem_cons_of_mem _ ht)
  · have hi := List.pairwise_append.1 h.ids
    have hi2 := List.pairwise_cons.1 hi.2.1
    refine List.pairwise_append.2 ⟨hi.1, List.pairwise_cons.2 ⟨fun s hs => hi2.1 s hs, hi2.2⟩, fun s hs t ht => ?_⟩
    rcases List.mem_cons.1 ht with rfl | ht
    · exact hi.2.2 s hs r (by simp)
    · exact hi.2.2 s hs t (List.mem_cons_of_mem _ ht)
  · intro s hs
    rcases List.mem_append.1 hs with hs | hs
    · exact h.upto s (List.mem_append.2 (.inl hs))
    · rcases List.mem_cons.1 hs with rfl | hs
      · exact h.upto r (by simp)
      · exact h.upto s (List.mem_append.2 (.inr (List.mem_cons_of_mem _ hs)))
  · intro s hs
    rcases List.mem_append.1 hs with hs | hs
    · exact h.few s (List.mem_append.2 (.inl hs))
    · rcases List.mem_cons.1 hs with rfl | hs
      · exact hn
      · exact h.few s (List.mem_append.2 (.inr (List.mem_cons_of_mem _ hs)))
end Go.Proofs.Ytdljloohgidbfaa
