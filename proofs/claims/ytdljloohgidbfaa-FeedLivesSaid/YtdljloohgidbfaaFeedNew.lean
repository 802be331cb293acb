/-
  The contracts of New and Watch: a feed without watchers, and one more watcher.
-/
import Derived.Test.YtdljloohgidbfaaFeedPush
import Derived.Test.YtdljloohgidbfaaChain
import Derived.Test.YtdljloohgidbfaaEx
import Derived.Test.YtdljloohgidbfaaEx
import Derived.Test.YtdljloohgidbfaaEx
namespace Go.Proofs.Ytdljloohgidbfaa
open Go Go.RowKit Go.Mem

/-- a watcher's number, items, and how many were left out -/
abbrev AR := Nat × List It × Nat
def absR (r : Row) : AR := (r.id, r.items, r.lost)
/-- p is a feed with F, in the blocks of S -/
def IsFeed (w : World) (p : Value) (F : Nat × List AR) (S : Nat → Prop) : Prop :=
  ∃ fb mb rows, p = .pointer (some ⟨fb, 0, none⟩) ∧ FeedRows w fb mb F.1 rows ∧ rows.map absR = F.2 ∧ ∀ k, S k ↔ Foot fb mb rows k

theorem IsFeed.lt {w : World} {p : Value} {F : Nat × List AR} {S : Nat → Prop} (h : IsFeed w p F S) {k : Nat} (hk : S k) : k < w.heap.size := by
  obtain ⟨fb, mb, rows, rfl, hf, _, hS⟩ := h
  exact Foot.lt hf ((hS k).1 hk)
theorem IsFeed.keep {w w' : World} {p : Value} {F : Nat × List AR} {S T : Nat → Prop} (h : IsFeed w p F S) (c : Chg T w w') (ht : ∀ k, S k → ¬ T k) : IsFeed w' p F S := by
  obtain ⟨fb, mb, rows, rfl, hf, hF, hS⟩ := h
  exact ⟨fb, mb, rows, rfl, hf.keep c fun k hk => ht k ((hS k).2 hk), hF, hS⟩

set_option maxRecDepth 100000 in
set_option maxHeartbeats 1000000 in
theorem new_any (w : World) : Calls Try.prog 8 #[] w fun e w' => ∃ p S, e = .returned p ∧ IsFeed w' p (0, []) S ∧ (∀ k, S k → w.heap.size ≤ k) ∧ Chg (fun _ => False) w w' := by
  have hmm := @run_makeMap Try.prog
  have hbd := build70
  go_enter Try.func8, Try.ntmps8
  go_wp2
  go_ret
  refine ⟨_, fun k => k = w.heap.size + 1 ∨ k = w.heap.size, rfl, ⟨w.heap.size + 1, w.heap.size, [], rfl, ⟨?_, ?_, fun _ h => (by cases h), .nil, .nil, fun _ h => (by cases h), by decide, fun _ h => (by cases h)⟩, rfl, fun k => ?_⟩, fun k hk => by omega, ((Chg.refl _ w).alloc _).alloc _⟩
  · have := heap_alloc_new (w.alloc (.map #[] 0)) (.cells #[.map (some w.heap.size), .int .u64 0] 70)
    simpa using this
  · exact World.ownsMap.alloc (World.ownsMap_made w Try.prog 25 ptrR) _
  · unfold Foot
    simp
-- WATCH
theorem put_last {H : Type} : ∀ (l : List (Lit × DataW H)) (x : Lit × DataW H), (∀ p ∈ l, x.1.before p.1 = false ∧ p.1.sameKey x.1 = false) → (DataW.map l).put x.1 x.2 = .map (l ++ [x])
  | l, x, h => by
    unfold DataW.put
    have hf : (l.filter fun p => !p.1.sameKey x.1) = l := List.filter_eq_self.2 fun p hp => by rw [(h p hp).2]; rfl
    simp only [hf]
    congr 1
    have : ∀ r : List (Lit × DataW H), (∀ p ∈ r, x.1.before p.1 = false) → DataW.insert x r = r ++ [x] := by
      intro r
      induction r with
      | nil => intro _; rfl
      | cons y r ih =>
        intro hr
        unfold DataW.insert
        rw [hr y (List.mem_cons_self ..), ih fun p hp => hr p (List.mem_cons_of_mem _ hp)]
        rfl
    exact this l fun p hp => (h p hp).1
theorem put_DM (rows : List Row) (r : Row) (h : ∀ s ∈ rows, s.id < r.id) : (DM rows).put (.int .u64 r.id) (.lit (.int .u64 r.blk)) = DM (rows ++ [r]) := by
  have := put_last (rows.map fun r => ((.int .u64 r.id, .lit (.int .u64 r.blk)) : Lit × DataW Unit)) (.int .u64 r.id, .lit (.int .u64 r.blk)) fun p hp => by
    obtain ⟨s, hs, rfl⟩ := List.mem_map.1 hp
    have := h s hs
    refine ⟨?_, ?_⟩
    · simp only [Lit.before, decide_eq_false_iff_not]; omega
    · rw [key_same]; simp; omega
  unfold DM
  rw [this]
  simp

set_option maxRecDepth 100000 in
set_option maxHeartbeats 2000000 in
theorem watch_walk (fb mb last : Nat) (rows : List Row) (w : World) (h : FeedRows w fb mb last rows) (hn : rows.length < 8) (hl : last + 1 < 1000000) :
    Calls Try.prog 9 #[.pointer (some ⟨fb, 0, none⟩)] w fun e w' => e = .returned (.tuple #[.int .u64 ((last : Int) + 1), .int .i64 0]) ∧
      ∃ r : Row, r.id = last + 1 ∧ r.items = [] ∧ r.lost = 0 ∧ FeedRows w' fb mb (last + 1) (rows ++ [r]) ∧ Chg (Foot fb mb rows) w w' ∧ r.blk = w.heap.size ∧ r.sv = .slice none 0 0 := by
  have hm0 := made_any fb mb (.int .u64 last) w h.feed
  have hc0 : w.cell? ⟨fb, 0, none⟩ = some (.map (some mb)) := by simp [World.cell?, h.feed]
  have hc1 : w.cell? ⟨fb, 1, none⟩ = some (.int .u64 last) := by simp [World.cell?, h.feed]
  have hf1 : w.frozen? ⟨fb, 1, none⟩ = false := by simp [World.frozen?, h.feed]
  have hfb := lt_of_at h.feed
  have hlen := h.map.len (t := 68) Try.underlying68 3
  rw [size_DM] at hlen
  have hne : fb ≠ mb := cells_map h.feed h.map
  have K : Maps.Keyed Try.prog 25 := Maps.int_keyed Try.underlying25
  -- the worlds
  obtain ⟨w1, hw1⟩ : ∃ w1, w1 = w.setCell ⟨fb, 1, none⟩ (.int .u64 ((last : Int) + 1)) := ⟨_, rfl⟩
  have c1 : Chg (fun k => k = fb) w w1 := by rw [hw1]; exact (Chg.refl (fun k => k = fb) w).setCell (.inl rfl) _
  have hs1 : w1.heap.size = w.heap.size := by rw [hw1]; simp [World.setCell]
  have hb1 : w1.heap[fb]? = some (.cells #[.map (some mb), .int .u64 ((last : Int) + 1)] 70) := by
    rw [hw1]
    simp only [World.setCell, Array.getElem?_modify, h.feed]
    simp
  obtain ⟨W0, hW0⟩ : ∃ W0, W0 = w1.drew := ⟨_, rfl⟩
  obtain ⟨W1, hW1⟩ : ∃ W1, W1 = W0.alloc (.cells #[.slice none 0 0, .int .u64 0] 74) := ⟨_, rfl⟩
  have cW0 : Chg (fun k => k = fb) w W0 := by rw [hW0]; exact c1.drew
  have cW1 : Chg (fun k => k = fb) w W1 := by rw [hW1]; exact cW0.alloc _
  have hb0 : W0.heap[fb]? = some (.cells #[.map (some mb), .int .u64 ((last : Int) + 1)] 70) := by rw [hW0]; exact hb1
  have hb2 : W1.heap[fb]? = some (.cells #[.map (some mb), .int .u64 ((last : Int) + 1)] 70) := by
    rw [hW1]; exact (Below.heap_alloc _ _ _ (lt_of_at hb0)).trans hb0
  have hsW0 : W0.heap.size = w.heap.size := by rw [hW0]; exact hs1
  have hmap1 : W1.ownsMap Try.prog 25 ptrR mb rows.length (DM rows) := ownsMap_chg h.map cW1 fun e => hne e.symm
  obtain ⟨r, hr⟩ : ∃ r : Row, r = ⟨last + 1, w.heap.size, .slice none 0 0, [], 0⟩ := ⟨_, rfl⟩
  have hkey : keyOf Try.prog 25 (.int .u64 ((last : Int) + 1)) = some (.int .u64 ((last : Int) + 1)) := Maps.keyOf_int_mk Try.underlying25 (WalkArith.wf_u64 (by omega))
  obtain ⟨W2, hup, hmap2, hg2⟩ := hmap1.update K (t := 68) Try.underlying68 (by unfold maxLen; omega) hkey (ptrR_mk w.heap.size)
  have c2 : Chg (fun k => k = mb) W1 W2 := (Chg.of_grown hg2).mono fun _ _ h => by cases h; rfl
  have hdm : (DM rows).put (.int .u64 ((last : Int) + 1)) (.lit (.int .u64 w.heap.size)) = DM (rows ++ [r]) := by
    have := put_DM rows r fun s hs => by have := h.upto s hs; rw [hr]; simp only; omega
    rw [hr] at this ⊢
    simpa using this
  rw [hdm] at hmap2
  have hl0 : (Instr.loadAt 68 (.pointer (some ⟨fb, 0, none⟩))).run Try.prog W0 = .ok (.map (some mb)) W0 := Ex.load1 Try.underlying68 rfl (by simp [World.cell?, hb0])
  have hl1 : (Instr.loadAt 68 (.pointer (some ⟨fb, 0, none⟩))).run Try.prog W1 = .ok (.map (some mb)) W1 := Ex.load1 Try.underlying68 rfl (by simp [World.cell?, hb2])
  have hn0 : (Instr.loadAt 25 (.pointer (some ⟨fb, 1, none⟩))).run Try.prog W0 = .ok (.int .u64 ((last : Int) + 1)) W0 := Ex.load1 Try.underlying25 rfl (by simp [World.cell?, hb0])
  have hn1 : (Instr.loadAt 25 (.pointer (some ⟨fb, 1, none⟩))).run Try.prog W1 = .ok (.int .u64 ((last : Int) + 1)) W1 := Ex.load1 Try.underlying25 rfl (by simp [World.cell?, hb2])
  have hbox : (Instr.box 74 (.agg #[.slice none 0 0, .int .u64 0])).run Try.prog W0 = .ok (.pointer (some ⟨w.heap.size, 0, none⟩)) W1 := by rw [hW1, ← hsW0]; rfl
  have hnew : W2.heap[w.heap.size]? = some (.cells #[.slice none 0 0, .int .u64 0] 74) := by
    refine c2.at (o := .cells #[.slice none 0 0, .int .u64 0] 74) ?_ (by have := h.map.lt; omega)
    rw [hW1, ← hsW0]; exact heap_alloc_new _ _
  have HF : Hid (FeedRows W2 fb mb (last + 1) (rows ++ [r])) := by
    have hch : Chg (fun k => k = fb ∨ k = mb) w W2 := ⟨c2.os.trans cW1.os, c2.tape.trans cW1.tape, c2.output.trans cW1.output, Nat.le_trans cW1.size c2.size, fun k hk hh => (c2.block k (Nat.lt_of_lt_of_le hk cW1.size) fun e => hh (.inr e)).trans (cW1.block k hk fun e => hh (.inl e))⟩
    refine ⟨?_, ?_, ?_, ?_, ?_, ?_, hl, ?_⟩
    · have := c2.at hb2 hne
      simpa using this
    · simpa using hmap2
    · intro s hs
      rcases List.mem_append.1 hs with hs | hs
      · refine (h.row s hs).chg hch ?_ fun k hk => ?_
        · rintro (e | e)
          · have h1 := (h.row s hs).cell
            rw [e, h.feed] at h1; simp at h1
          · exact cells_map (h.row s hs).cell h.map e
        · rintro (e | e)
          · subst e; exact own_row (h.row s hs).sl h.feed (by decide) hk
          · subst e; exact own_map (h.row s hs).sl h.map hk
      · obtain rfl := List.mem_singleton.1 hs
        rw [hr]
        exact ⟨hnew, Sl.nil _ _ _⟩
    · refine List.pairwise_append.2 ⟨h.apart, List.pairwise_singleton _ _, fun s hs t ht => ?_⟩
      obtain rfl := List.mem_singleton.1 ht
      rw [hr]
      refine ⟨?_, fun k _ => by simp [Value.ownBlock]⟩
      have := lt_of_at (h.row s hs).cell
      simp only; omega
    · refine List.pairwise_append.2 ⟨h.ids, List.pairwise_singleton _ _, fun s hs t ht => ?_⟩
      obtain rfl := List.mem_singleton.1 ht
      have := h.upto s hs
      rw [hr]; simp only; omega
    · intro s hs
      rcases List.mem_append.1 hs with hs | hs
      · have := h.upto s hs; omega
      · obtain rfl := List.mem_singleton.1 hs
        rw [hr]; exact Nat.le_refl _
    · intro s hs
      rcases List.mem_append.1 hs with hs | hs
      · exact h.few s hs
      · obtain rfl := List.mem_singleton.1 hs
        rw [hr]; simp
  have HC : Hid (Chg (Foot fb mb rows) w W2) := (cW1.mono fun k _ hk => .inl hk).trans (c2.mono fun k _ hk => .inl (.inr (.inl hk)))
  have hcf : W2.cell? ⟨fb, 1, none⟩ = some (.int .u64 ((last : Int) + 1)) := by
    have := c2.at hb2 hne
    simp [World.cell?, this]
  have HR : Hid (r.id = last + 1 ∧ r.items = [] ∧ r.lost = 0 ∧ r.blk = w.heap.size ∧ r.sv = .slice none 0 0) := by rw [hr]; exact ⟨rfl, rfl, rfl, rfl, rfl⟩
  have HW : Hid (W0 = w1.drew) := hW0
  have hw1' : w.setCell ⟨fb, 1, none⟩ (.int .u64 ((last : Int) + 1)) = w1 := hw1.symm
  clear hw1 c1 hs1 hb1 hW0 hW1 cW0 cW1 hb0 hb2 hsW0 hmap1 hr hkey hmap2 hg2 c2 hdm hnew h hne K hfb
  have hnn : ¬ ((8 : Int) ≤ rows.length) := by omega
  go_enter Try.func9, Try.ntmps9
  go_wp2_with fail
  refine hm0.mono ?_
  rintro e w9 ⟨rfl, hw9⟩
  rw [hw9]
  clear hw9 w9 hm0
  go_wp2_with fail
  refine Go.Drawn.wp_region_chain [[], [0], [0, 1], [0, 1, 2], [], [4], [4, 5], [4, 5, 6], [], [8], [0, 1, 2, 3, 4, 5, 6, 7, 8, 9]] [.pointer (some ⟨fb, 0, none⟩), .pointer (some ⟨fb, 0, none⟩), .pointer (some ⟨fb, 0, none⟩), .map (some mb), .pointer (some ⟨fb, 0, none⟩), .pointer (some ⟨fb, 0, none⟩), .pointer (some ⟨fb, 1, none⟩), .int .u64 (last + 1), .agg #[.slice none 0 0, .int .u64 0], .pointer (some ⟨w.heap.size, 0, none⟩), undef] (fun k => ([W0, W1, W2] : List World).getD k (W0)) [9, 10] [[0, 1], [0, 1], [0, 1], [0, 1], [0, 1], [0, 1], [0, 1], [0, 1], [0], [0], [1]] (by kernel_rfl) (by kernel_rfl) (by kernel_rfl) (by kernel_rfl) (by kernel_rfl) (by kernel_rfl) ?_ ?_ ?_
  · exact HW.out
  · exact ⟨⟨(.val (by kernel_rfl) (by kernel_rfl)), (.val (by kernel_rfl) (by kernel_rfl)), trivial⟩,
      ⟨(.val (by kernel_rfl) (by kernel_rfl)), (.val (by kernel_rfl) (by kernel_rfl)), trivial⟩,
      ⟨(.val (by kernel_rfl) (by kernel_rfl)), (.val (by kernel_rfl) (by kernel_rfl)), trivial⟩,
      ⟨(.val (by kernel_rfl) (Ex.load rfl hl0)), (.val (by kernel_rfl) (Ex.load rfl hl1)), trivial⟩,
      ⟨(.val (by kernel_rfl) (by kernel_rfl)), (.val (by kernel_rfl) (by kernel_rfl)), trivial⟩,
      ⟨(.val (by kernel_rfl) (by kernel_rfl)), (.val (by kernel_rfl) (by kernel_rfl)), trivial⟩,
      ⟨(.val (by kernel_rfl) (by kernel_rfl)), (.val (by kernel_rfl) (by kernel_rfl)), trivial⟩,
      ⟨(.val (by kernel_rfl) (Ex.load rfl hn0)), (.val (by kernel_rfl) (Ex.load rfl hn1)), trivial⟩,
      ⟨(.val (by kernel_rfl) (by kernel_rfl)), trivial⟩,
      ⟨(.val (by kernel_rfl) (Ex.box rfl hbox)), trivial⟩,
      ⟨(.skip (by kernel_rfl) (Ex.mapUpdate rfl hup) rfl), trivial⟩,
      trivial⟩
  simp only [Go.Drawn.putAll, Act.put, List.getD_cons_zero, List.getD_cons_succ, List.setIfInBounds_toArray, List.set_cons_zero, List.set_cons_succ, List.length_cons, List.length_nil, Nat.reduceAdd]
  clear hup hl0 hl1 hn0 hn1 hbox hw1' hlen hc0 hc1 hf1
  go_wp2
  go_ret2
  exact ⟨rfl, r, HR.out.1, HR.out.2.1, HR.out.2.2.1, HF.out, HC.out, HR.out.2.2.2.1, HR.out.2.2.2.2⟩
end Go.Proofs.Ytdljloohgidbfaa
