/-
  The contract of Waits; the contracts said of a feed's data.
-/
import Derived.Test.YtdljloohgidbfaaFeedTake
namespace Go.Proofs.Ytdljloohgidbfaa
open Go Go.RowKit Go.Mem

def waitsI (p : List It × Nat) : Int := if 0 < p.2 then (p.1.length : Int) + 1 else p.1.length

set_option maxRecDepth 100000 in
set_option maxHeartbeats 2000000 in
theorem waits_walk (fb mb last : Nat) (rows : List Row) (r : Row) (w : World) (h : FeedRows w fb mb last rows) (hr : r ∈ rows) :
    Calls Try.prog 14 #[.pointer (some ⟨fb, 0, none⟩), .int .u64 r.id] w fun e w' => e = .returned (.int .i64 (waitsI (r.items, r.lost))) ∧ w' = w := by
  have hm0 := made_any fb mb (.int .u64 last) w h.feed
  have hc0 : w.cell? ⟨fb, 0, none⟩ = some (.map (some mb)) := by simp [World.cell?, h.feed]
  have hlk := look_row h hr
  have hrow := h.row r hr
  obtain ⟨sa, sc, hsv, hsc⟩ := Sl.shape2 hrow.sl
  rw [List.length_map] at hsv hsc
  have hb0 : w.cell? ⟨r.blk, 0, none⟩ = some (.slice sa r.items.length sc) := by simp [World.cell?, hrow.cell, hsv]
  have hb1 : w.cell? ⟨r.blk, 1, none⟩ = some (.int .u64 r.lost) := by simp [World.cell?, hrow.cell]
  have h16 := h.few r hr
  have hnil : (binOp .eql 72 (.pointer (some ⟨r.blk, 0, none⟩)) (.pointer none)).run Try.prog w = .ok (.bool false) w := by kernel_rfl
  clear h hrow hsv hsc
  by_cases hl : 0 < r.lost
  · have HW : Hid (waitsI (r.items, r.lost) = (r.items.length : Int) + 1) := by unfold Hid waitsI; rw [if_pos hl]
    go_enter Try.func14, Try.ntmps14
    go_wp2_with fail
    refine hm0.mono ?_
    rintro e w9 ⟨rfl, hw9⟩
    rw [hw9]
    clear hw9 w9 hm0
    go_wp2_with fail
    go_ret
    exact ⟨by rw [HW.out]; rfl, rfl⟩
  · have HW : Hid (waitsI (r.items, r.lost) = (r.items.length : Int)) := by unfold Hid waitsI; rw [if_neg hl]
    go_enter Try.func14, Try.ntmps14
    go_wp2_with fail
    refine hm0.mono ?_
    rintro e w9 ⟨rfl, hw9⟩
    rw [hw9]
    clear hw9 w9 hm0
    go_wp2_with fail
    go_ret
    exact ⟨by rw [HW.out]; rfl, rfl⟩

def pushA (evs : List Ev) (a : AR) : AR := (a.1, evs.foldl pushI a.2)
def takeA (id : Nat) (n : Int) (a : AR) : AR := if a.1 = id then (a.1, (takeI a.2 n).2) else a

theorem watch_is {w : World} {p : Value} {F : Nat × List AR} {S : Nat → Prop} (h : IsFeed w p F S) (hn : F.2.length < 8) (hl : F.1 + 1 < 1000000) :
    Calls Try.prog 9 #[p] w fun e w' => e = .returned (.tuple #[.int .u64 ((F.1 : Int) + 1), .int .i64 0]) ∧ ∃ S', IsFeed w' p (F.1 + 1, F.2 ++ [(F.1 + 1, [], 0)]) S' ∧ (∀ k, S' k → S k ∨ w.heap.size ≤ k) ∧ Chg S w w' := by
  obtain ⟨fb, mb, rows, rfl, hf, hF, hS⟩ := h
  have hlen : rows.length = F.2.length := by rw [← hF, List.length_map]
  refine (watch_walk fb mb F.1 rows w hf (by omega) hl).mono ?_
  rintro e w' ⟨rfl, r, h1, h2, h3, h4, h5, h6, h7⟩
  refine ⟨rfl, Foot fb mb (rows ++ [r]), ⟨fb, mb, rows ++ [r], rfl, h4, ?_, fun _ => Iff.rfl⟩, fun k hk => ?_, h5.mono fun k _ h => (hS k).2 h⟩
  · rw [List.map_append, hF, List.map_singleton]
    unfold absR
    rw [h1, h2, h3]
  · rcases hk with hk | hk | ⟨s, hs, hk⟩
    · exact .inl ((hS k).2 (.inl hk))
    · exact .inl ((hS k).2 (.inr (.inl hk)))
    · rcases List.mem_append.1 hs with hs | hs
      · exact .inl ((hS k).2 (.inr (.inr ⟨s, hs, hk⟩)))
      · obtain rfl := List.mem_singleton.1 hs
        rcases hk with hk | hk
        · exact .inr (by omega)
        · rw [h7] at hk; simp [Value.ownBlock] at hk

theorem push_is {w : World} {p : Value} {F : Nat × List AR} {S : Nat → Prop} (h : IsFeed w p F S) (v : Value) (evs : List Ev) (hev : Sl w 38 34 v (evs.map Ev.cells)) (hn : evs.length ≤ 40) (hlost : ∀ a ∈ F.2, a.2.2 + 40 < 1000000) :
    Calls Try.prog 10 #[p, v] w fun e w' => e = .returned (.tuple #[]) ∧ ∃ S', IsFeed w' p (F.1, F.2.map (pushA evs)) S' ∧ (∀ k, S' k → S k ∨ w.heap.size ≤ k) ∧ Chg S w w' := by
  obtain ⟨fb, mb, rows, rfl, hf, hF, hS⟩ := h
  refine (fpush_walk fb mb F.1 rows v evs w hf hev hn fun r hr => hlost _ (by rw [← hF]; exact List.mem_map.2 ⟨r, hr, rfl⟩)).mono ?_
  rintro e w' ⟨rfl, rows', h1, h2, h3, h4⟩
  refine ⟨rfl, Foot fb mb rows', ⟨fb, mb, rows', rfl, h1, ?_, fun _ => Iff.rfl⟩, fun k hk => (h4 k hk).imp (fun h => (hS k).2 h) id, h3.mono fun k _ h => (hS k).2 h⟩
  have e1 : ∀ l : List Row, l.map absR = (l.map core).map fun c => (c.1, c.2.2.1, c.2.2.2) := fun l => by rw [List.map_map]; rfl
  rw [e1, h2, ← e1, ← hF, List.map_map, List.map_map]
  rfl

theorem take_is_s {w : World} {p : Value} {F : Nat × List AR} {S : Nat → Prop} (h : IsFeed w p F S) (a : AR) (ha : a ∈ F.2) (n : Int) :
    Calls Try.prog 12 #[p, .int .u64 a.1, .int .i64 n] w fun e w' => ∃ v, e = .returned (.tuple #[v, .int .i64 0]) ∧ Sl w' 40 35 v ((takeI a.2 n).1.map It.cells) ∧ (∀ k, v.ownBlock = some k → w.heap.size ≤ k) ∧ ∃ S', IsFeed w' p (F.1, F.2.map (takeA a.1 n)) S' ∧ (∀ k, S' k → S k) ∧ Chg S w w' := by
  obtain ⟨fb, mb, rows, rfl, hf, hF, hS⟩ := h
  rw [← hF] at ha
  obtain ⟨r, hr, rfl⟩ := List.mem_map.1 ha
  obtain ⟨A, B, rfl⟩ := row_split hr
  refine (take_all fb mb F.1 A B r n w hf).mono ?_
  rintro e w' ⟨v, rfl, hT⟩
  obtain ⟨sv, hsv, hfd⟩ := hT.feed
  have hch : Chg S w w' := hT.chg.mono fun k _ h => (hS k).2 h
  refine ⟨v, rfl, hT.sl, hT.new, _, ⟨fb, mb, _, rfl, hfd, ?_, fun _ => Iff.rfl⟩, fun k hk => (hS k).2 ?_, hch⟩
  · rw [← hF]
    have hi := List.pairwise_append.1 hf.ids
    have hi2 := List.pairwise_cons.1 hi.2.1
    have hne : ∀ s ∈ A ++ B, takeA r.id n (absR s) = absR s := fun s hs => by
      unfold takeA
      rw [if_neg]
      show ¬ s.id = r.id
      rcases List.mem_append.1 hs with hs | hs
      · have := hi.2.2 s hs r (by simp); omega
      · have := hi2.1 s hs; omega
    simp only [List.map_append, List.map_cons, List.map_map]
    congr 1
    · exact List.map_congr_left fun s hs => (hne s (List.mem_append.2 (.inl hs))).symm
    · congr 1
      · show _ = takeA r.id n (absR r)
        unfold takeA
        rw [if_pos (show (absR r).1 = r.id from rfl)]
        rfl
      · exact List.map_congr_left fun s hs => (hne s (List.mem_append.2 (.inr hs))).symm
  · rcases hk with hk | hk | ⟨s, hs, hk⟩
    · exact .inl hk
    · exact .inr (.inl hk)
    · refine .inr (.inr ?_)
      rcases List.mem_append.1 hs with hs | hs
      · exact ⟨s, List.mem_append.2 (.inl hs), hk⟩
      · rcases List.mem_cons.1 hs with rfl | hs
        · refine ⟨r, by simp, ?_⟩
          rcases hk with hk | hk
          · exact .inl hk
          · exact .inr (by rw [← hsv]; exact hk)
        · exact ⟨s, List.mem_append.2 (.inr (List.mem_cons_of_mem _ hs)), hk⟩

theorem take_is {w : World} {p : Value} {F : Nat × List AR} {S : Nat → Prop} (h : IsFeed w p F S) (a : AR) (ha : a ∈ F.2) (n : Int) :
    Calls Try.prog 12 #[p, .int .u64 a.1, .int .i64 n] w fun e w' => ∃ v, e = .returned (.tuple #[v, .int .i64 0]) ∧ Sl w' 40 35 v ((takeI a.2 n).1.map It.cells) ∧ (∀ k, v.ownBlock = some k → w.heap.size ≤ k) ∧ ∃ S', IsFeed w' p (F.1, F.2.map (takeA a.1 n)) S' ∧ (∀ k, S' k → S k ∨ w.heap.size ≤ k) ∧ Chg S w w' :=
  (take_is_s h a ha n).mono fun _ _ ⟨v, h1, h2, h3, S', h4, h5, h6⟩ => ⟨v, h1, h2, h3, S', h4, fun k hk => .inl (h5 k hk), h6⟩

theorem take_no {w : World} {p : Value} {F : Nat × List AR} {S : Nat → Prop} (h : IsFeed w p F S) (x : Nat) (hx : x < 18446744073709551616) (hn : ∀ a ∈ F.2, a.1 ≠ x) (n : Int) :
    Calls Try.prog 12 #[p, .int .u64 x, .int .i64 n] w fun e w' => e = .returned (.tuple #[.slice none 0 0, .int .i64 4]) ∧ w' = w := by
  obtain ⟨fb, mb, rows, rfl, hf, hF, hS⟩ := h
  exact take_none fb mb F.1 rows x n w hf hx fun r hr => hn _ (by rw [← hF]; exact List.mem_map.2 ⟨r, hr, rfl⟩)

theorem waits_is {w : World} {p : Value} {F : Nat × List AR} {S : Nat → Prop} (h : IsFeed w p F S) (a : AR) (ha : a ∈ F.2) :
    Calls Try.prog 14 #[p, .int .u64 a.1] w fun e w' => e = .returned (.int .i64 (waitsI a.2)) ∧ w' = w := by
  obtain ⟨fb, mb, rows, rfl, hf, hF, hS⟩ := h
  rw [← hF] at ha
  obtain ⟨r, hr, rfl⟩ := List.mem_map.1 ha
  exact waits_walk fb mb F.1 rows r w hf hr

/-- Events as a slice -/
theorem events_is (f : Nat) (n : Int) (w : World) (hf : f < 1000000) :
    Calls Try.prog 11 #[.int .u64 f, .int .i64 n] w fun e w' => ∃ v, e = .returned v ∧ Sl w' 38 34 v ((evs f (min n.toNat 40)).map Ev.cells) ∧ (∀ k, v.ownBlock = some k → w.heap.size ≤ k) ∧ Below w.heap.size w w' := by
  refine (events_any f n w hf).mono ?_
  rintro e w' h
  exact h
end Go.Proofs.Ytdljloohgidbfaa
