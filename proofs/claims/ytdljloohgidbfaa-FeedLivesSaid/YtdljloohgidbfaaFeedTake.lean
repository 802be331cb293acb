/-
  The contracts of Take and Waits.
-/
import Derived.Test.YtdljloohgidbfaaFeedNew
namespace Go.Proofs.Ytdljloohgidbfaa
open Go Go.RowKit Go.Mem

theorem look_row {w : World} {fb mb last : Nat} {rows : List Row} (h : FeedRows w fb mb last rows) {r : Row} (hr : r ∈ rows) :
    (Instr.lookup 68 (.map (some mb)) (.int .u64 r.id) false).run Try.prog w = .ok (.pointer (some ⟨r.blk, 0, none⟩)) w := by
  have K : Maps.Keyed Try.prog 25 := Maps.int_keyed Try.underlying25
  have hz : (zeroValue 72).run Try.prog w = .ok (.pointer none) w := by kernel_rfl
  have hkey : keyOf Try.prog 25 (.int .u64 (r.id : Int)) = some (.int .u64 (r.id : Int)) := Maps.keyOf_int_mk Try.underlying25 (WalkArith.wf_u64 (by have := h.upto r hr; have := h.big; omega))
  obtain ⟨v, ps, hrun, hv⟩ := h.map.lookup K (t := 68) Try.underlying68 hz (zd := .lit (.bool false)) (zp := []) rfl hkey
  rw [at_DM h.ids hr] at hv
  rw [hrun, ptrR_inv hv]
theorem look_none {w : World} {fb mb last : Nat} {rows : List Row} (h : FeedRows w fb mb last rows) {x : Nat} (hx : x < 18446744073709551616) (hr : ∀ r ∈ rows, r.id ≠ x) :
    (Instr.lookup 68 (.map (some mb)) (.int .u64 x) false).run Try.prog w = .ok (.pointer none) w := by
  have K : Maps.Keyed Try.prog 25 := Maps.int_keyed Try.underlying25
  have hz : (zeroValue 72).run Try.prog w = .ok (.pointer none) w := by kernel_rfl
  have hkey : keyOf Try.prog 25 (.int .u64 (x : Int)) = some (.int .u64 (x : Int)) := Maps.keyOf_int_mk Try.underlying25 (WalkArith.wf_u64 (by omega))
  obtain ⟨v, ps, hrun, hv⟩ := h.map.lookup K (t := 68) Try.underlying68 hz (zd := .lit (.bool false)) (zp := []) rfl hkey
  rw [miss_DM hr] at hv
  rw [hrun, ptrR_nil hv]

set_option maxRecDepth 100000 in
set_option maxHeartbeats 2000000 in
theorem take_none (fb mb last : Nat) (rows : List Row) (x : Nat) (n : Int) (w : World) (h : FeedRows w fb mb last rows) (hx : x < 18446744073709551616) (hr : ∀ r ∈ rows, r.id ≠ x) :
    Calls Try.prog 12 #[.pointer (some ⟨fb, 0, none⟩), .int .u64 x, .int .i64 n] w fun e w' => e = .returned (.tuple #[.slice none 0 0, .int .i64 4]) ∧ w' = w := by
  have hm0 := made_any fb mb (.int .u64 last) w h.feed
  have hc0 : w.cell? ⟨fb, 0, none⟩ = some (.map (some mb)) := by simp [World.cell?, h.feed]
  have hlk := look_none h hx hr
  clear h hr hx
  go_enter Try.func12, Try.ntmps12
  go_wp2_with fail
  refine hm0.mono ?_
  rintro e w9 ⟨rfl, hw9⟩
  rw [hw9]
  clear hw9 w9 hm0
  go_wp2_with fail
  go_ret2
  exact ⟨rfl, rfl⟩

/-- what is taken of what there is, and what is left -/
def takeI (p : List It × Nat) (n : Int) : List It × (List It × Nat) :=
  if (p.1.length : Int) < n ∧ 0 < p.2 then (p.1 ++ [gap p.2], ([], 0)) else (p.1.take n.toNat, (p.1.drop n.toNat, p.2))

theorem Sl.shape2 {w : World} {e sz : Nat} {v : Value} {xs : List (List Value)} (h : Sl w e sz v xs) : ∃ a cap, v = .slice a xs.length cap ∧ xs.length ≤ cap := by
  rcases h.2 with ⟨rfl, rfl⟩ | ⟨g, o, cap, cur, rfl, _, hc, _⟩
  · exact ⟨_, _, rfl, Nat.le_refl _⟩
  · exact ⟨_, _, rfl, hc⟩
theorem add0 (x : Addr) : x.add 0 = x := by simp [Addr.add]
theorem sliced0 (a : Option Addr) (k s : Nat) : Go.sliced a 0 k k s = .slice a k k := by
  unfold Go.sliced
  rw [Nat.zero_mul, Nat.sub_zero]
  have : a.map (fun x => x.add 0) = a := by
    cases a with
    | none => rfl
    | some x => rw [Option.map_some, add0]
  rw [this]
  split <;> rfl
set_option maxRecDepth 100000 in
theorem run_slice_l40 (w : World) (a : Option Addr) (k m c : Nat) (hk : k ≤ m) : (Instr.sliceAt 32 (.slice a m c) (some (.int .i64 (k : Int))) none none).run Try.prog w = .ok (Go.sliced a k m c 35) w := by
  have hu : Try.prog.underlying 32 = some (.slice (Try.prog.elem 32)) := Try.underlying32
  have he : Try.prog.elem 32 = 40 := by kernel_rfl
  have hz : (sizeOf 40).run Try.prog w = .ok 35 w := by kernel_rfl
  rw [run_sliceAt_slice w 32 _ _ _ _ hu, run_slice_l w 32 a m c hu .i64 (k : Int) (by omega) (by omega), he, hz]
  simp [Result.andThen]

/-- what a take leaves -/
structure Took (w : World) (fb mb last : Nat) (A B : List Row) (r : Row) (n : Int) (v : Value) (w' : World) : Prop where
  sl : Sl w' 40 35 v ((takeI (r.items, r.lost) n).1.map It.cells)
  new : ∀ k, v.ownBlock = some k → w.heap.size ≤ k
  feed : ∃ sv, sv.ownBlock = r.sv.ownBlock ∧ FeedRows w' fb mb last (A ++ { r with sv := sv, items := (takeI (r.items, r.lost) n).2.1, lost := (takeI (r.items, r.lost) n).2.2 } :: B)
  chg : Chg (Foot fb mb (A ++ r :: B)) w w'

/-- the row behind the store of what is left -/
theorem took_row {w w1 : World} {fb mb last : Nat} {A B : List Row} {r : Row} (h : FeedRows w fb mb last (A ++ r :: B)) (hB : Below w.heap.size w w1) {sa : Option Addr} {sc k : Nat} (hsv : r.sv = .slice sa r.items.length sc) (hk : k ≤ r.items.length) (hsc : r.items.length ≤ sc) :
    FeedRows w1 fb mb last (A ++ r :: B) ∧ RowAt (w1.setCell ⟨r.blk, 0, none⟩ (Go.sliced sa k r.items.length sc 35)) r.blk (Go.sliced sa k r.items.length sc 35) (r.items.drop k) r.lost ∧
      (Go.sliced sa k r.items.length sc 35).ownBlock = r.sv.ownBlock ∧ r.sv.ownBlock ≠ some r.blk ∧ r.blk < w.heap.size := by
  have hin : r ∈ A ++ r :: B := by simp
  have h1 : FeedRows w1 fb mb last (A ++ r :: B) := h.keep (Chg.of_below hB) fun k hk hk' => by have := Foot.lt h hk; omega
  have hrow := h1.row r hin
  have hne : r.sv.ownBlock ≠ some r.blk := own_row hrow.sl hrow.cell (by decide)
  have hob : (Go.sliced sa k r.items.length sc 35).ownBlock = r.sv.ownBlock := by rw [sliced_block, hsv]; cases sa <;> rfl
  refine ⟨h1, ⟨?_, ?_⟩, hob, hne, lt_of_at (h.row r hin).cell⟩
  · simp only [World.setCell, Array.getElem?_modify, hrow.cell]
    simp
  · have hs := hrow.sl
    rw [hsv] at hs
    have h2 := hs.sliced (l := k) (hi := r.items.length) (m := sc) hk (by simp) hsc (Nat.le_refl _)
    have e1 : ((r.items.map It.cells).drop k).take (r.items.length - k) = (r.items.drop k).map It.cells := by
      rw [← List.map_drop, List.take_of_length_le (by simp)]
    rw [e1] at h2
    exact h2.chg ((Chg.refl (fun j => j = r.blk) w1).setCell (.inl rfl) _) fun j hj hjb => by
      rw [hob, hjb] at hj; exact hne hj

theorem more_sl {w : World} {sv : Value} {items : List It} (h : Sl w 40 35 sv (items.map It.cells)) (i : It) (hn : items.length < 20) :
    ∃ v' w', (Builtin.append_ #[32, 32] 32 #[sv, .slice (some ⟨w.heap.size, 0, none⟩) 1 1]).run Try.prog (w.alloc (.cells i.cells.toArray 40)) = .ok v' w' ∧
      Sl w' 40 35 v' ((items ++ [i]).map It.cells) ∧ Chg (fun k => sv.ownBlock = some k) (w.alloc (.cells i.cells.toArray 40)) w' ∧ (v'.ownBlock = sv.ownBlock ∨ ∃ k, v'.ownBlock = some k ∧ w.heap.size ≤ k) := by
  obtain ⟨ie, hi, hz, hs, hb⟩ : ∃ ie, Try.prog.info? 40 = some ie ∧ ie.zero = some (.agg (itC 0 0 0 0).toArray) ∧ ie.size = 35 ∧ ie.bytes = 56 := by
    have h : (Try.prog.info? 40).map (fun i => (i.zero, i.size, i.bytes)) = some (some (.agg (itC 0 0 0 0).toArray), 35, 56) := by kernel_rfl
    cases hq : Try.prog.info? 40 with
    | none => rw [hq] at h; cases h
    | some i0 => rw [hq] at h; simp at h; exact ⟨i0, rfl, h.1, h.2.1, h.2.2⟩
  have hsl : Sl (w.alloc (.cells i.cells.toArray 40)) 40 35 sv (items.map It.cells) := h.chg ((Chg.refl (fun _ => False) w).alloc _) (fun _ _ h => h)
  obtain ⟨v', w', hr, h1, h2, h3, _⟩ := Sl.append (P := Try.prog) 32 32 Try.underlying32 hi hz hs hb rfl hsl ⟨w.heap.size, 0, none⟩ 1 [i.cells] (fun y hy => by rw [List.mem_singleton.1 hy]; rfl)
      (fun j u hj => by
        rw [Addr.add_mid, Nat.zero_add]
        simp only [World.cell?, heap_alloc_new]
        simpa using hj)
      (fun y hy u hu => by
        rw [List.mem_singleton.1 hy] at hu
        exact (List.all_eq_true.1 (show (i.cells.all (·.oneCell')) = true from rfl)) u hu)
      (by simp) (by simp only [List.length_map, List.length_singleton]; unfold maxLen; omega) (by simp only [List.length_map, List.length_singleton]; omega)
  refine ⟨v', w', hr, by rw [List.map_append]; exact h1, h2, ?_⟩
  rcases h3 with h3 | h3
  · exact .inl h3
  · exact .inr ⟨_, h3, by simp⟩

theorem take_min {α : Type} (l : List α) (n : Nat) : l.take (min n l.length) = l.take n := by
  rcases Nat.le_total n l.length with h | h
  · rw [Nat.min_eq_left h]
  · rw [Nat.min_eq_right h, List.take_of_length_le h, List.take_length]
theorem drop_min {α : Type} (l : List α) (n : Nat) : l.drop (min n l.length) = l.drop n := by
  rcases Nat.le_total n l.length with h | h
  · rw [Nat.min_eq_left h]
  · rw [Nat.min_eq_right h, List.drop_of_length_le h, List.drop_length]

theorem took_done {w w1 w2 : World} {fb mb last : Nat} {A B : List Row} {r : Row} {n : Int} {k : Nat} {v sv : Value} (h : FeedRows w fb mb last (A ++ r :: B)) (hB : Below w.heap.size w w1) (hR : RowAt w2 r.blk sv (r.items.drop k) r.lost) (hob : sv.ownBlock = r.sv.ownBlock)
    (hsl : Sl w1 40 35 v ((r.items.take k).map It.cells)) (hnw : ∀ j, v.ownBlock = some j → w.heap.size ≤ j) (hc : Chg (fun j => j = r.blk) w1 w2) (hk : k = min n.toNat r.items.length) (hg : ¬ ((k : Int) < n ∧ 0 < r.lost)) : Took w fb mb last A B r n v w2 := by
  have hin : r ∈ A ++ r :: B := by simp
  have hbl := Foot.lt h (.inr (.inr ⟨r, hin, .inl rfl⟩))
  have ht : takeI (r.items, r.lost) n = (r.items.take k, (r.items.drop k, r.lost)) := by
    unfold takeI
    rw [if_neg (by simp only; omega), hk, take_min, drop_min]
  have hw : Chg (fun j => j = r.blk) w w2 := ((Chg.of_below hB).mono fun j hj h => (by omega : False).elim).trans (hc.mono fun j _ h => .inl h)
  have hf := h.turn sv (r.items.drop k) r.lost hR (by rw [List.length_drop]; have := h.few r hin; omega) (hw.mono fun j _ h => .inl h) (.inl hob)
  refine ⟨?_, hnw, ⟨sv, hob, ?_⟩, hw.mono fun j _ h => .inr (.inr ⟨r, hin, .inl h⟩)⟩
  · rw [ht]
    exact hsl.chg hc fun j hj e => by have := hnw j hj; omega
  · rw [ht]; exact hf

theorem took_gap {w w1 w2 w4 : World} {fb mb last : Nat} {A B : List Row} {r : Row} {n : Int} {k : Nat} {v v4 sv : Value} (h : FeedRows w fb mb last (A ++ r :: B)) (hB : Below w.heap.size w w1) (hR : RowAt w2 r.blk sv (r.items.drop k) r.lost) (hob : sv.ownBlock = r.sv.ownBlock)
    (hnw : ∀ j, v.ownBlock = some j → w.heap.size ≤ j) (hc : Chg (fun j => j = r.blk) w1 w2) (hk : k = min n.toNat r.items.length) (hg1 : (k : Int) < n) (hg2 : 0 < r.lost)
    (hsl : Sl w4 40 35 v4 ((r.items.take k ++ [gap r.lost]).map It.cells)) (h4 : Chg (fun j => v.ownBlock = some j) (w2.alloc (.cells (gap r.lost).cells.toArray 40)) w4) (ho : v4.ownBlock = v.ownBlock ∨ ∃ k, v4.ownBlock = some k ∧ w2.heap.size ≤ k) :
    Took w fb mb last A B r n v4 (w4.setCell ⟨r.blk, 1, none⟩ (.int .u64 0)) := by
  have hin : r ∈ A ++ r :: B := by simp
  have hbl := Foot.lt h (.inr (.inr ⟨r, hin, .inl rfl⟩))
  have hn4 : ∀ j, v4.ownBlock = some j → w.heap.size ≤ j := fun j hj => by
    rcases ho with ho | ⟨k', hk', hl⟩
    · exact hnw j (by rw [← ho]; exact hj)
    · rw [hk'] at hj; cases hj
      have := hB.size
      have := hc.size
      omega
  have ht : takeI (r.items, r.lost) n = (r.items ++ [gap r.lost], ([], 0)) := by
    unfold takeI
    rw [if_pos (by simp only; omega)]
  have hkl : k = r.items.length := by omega
  have e1 : r.items.take k = r.items := by rw [hkl, List.take_length]
  have e2 : r.items.drop k = [] := by rw [hkl, List.drop_length]
  rw [e1] at hsl
  rw [e2] at hR
  have hw2 : Chg (fun j => j = r.blk) w w2 := ((Chg.of_below hB).mono fun j hj h => (by omega : False).elim).trans (hc.mono fun j _ h => .inl h)
  have hw4 : Chg (fun j => j = r.blk) w w4 := (hw2.alloc _).trans (h4.mono fun j _ h => .inr (hnw j h))
  have hw5 : Chg (fun j => j = r.blk) w (w4.setCell ⟨r.blk, 1, none⟩ (.int .u64 0)) := hw4.setCell (.inl rfl) _
  have hbl2 : r.blk < (w2.alloc (.cells (gap r.lost).cells.toArray 40)).heap.size := by have := lt_of_at hR.cell; simp; omega
  have hc4 : w4.heap[r.blk]? = some (.cells #[sv, .int .u64 r.lost] 74) := by
    rw [h4.block r.blk hbl2 (fun h => by have := hnw _ h; omega), Below.heap_alloc _ _ _ (lt_of_at hR.cell)]
    exact hR.cell
  have hob4 : ∀ j, sv.ownBlock = some j → j < w.heap.size ∧ j ≠ r.blk := fun j hj => by
    rw [hob] at hj
    exact ⟨(h.row r hin).sl.lt hj, fun e => own_row (h.row r hin).sl (h.row r hin).cell (by decide) (by rw [hj, e])⟩
  have hR5 : RowAt (w4.setCell ⟨r.blk, 1, none⟩ (.int .u64 0)) r.blk sv [] 0 := by
    refine ⟨?_, ?_⟩
    · simp only [World.setCell, Array.getElem?_modify, hc4]
      simp
    · have h1 : Sl (w2.alloc (.cells (gap r.lost).cells.toArray 40)) 40 35 sv (([] : List It).map It.cells) := hR.sl.chg ((Chg.refl (fun _ => False) w2).alloc _) fun _ _ h => h
      have h2 := h1.chg h4 fun j hj h => by have := hnw j h; have := hob4 j hj; omega
      exact h2.chg ((Chg.refl (fun j => j = r.blk) w4).setCell (.inl rfl) _) fun j hj e => (hob4 j hj).2 e
  have hf := h.turn sv [] 0 hR5 (by simp) (hw5.mono fun j _ h => .inl h) (.inl hob)
  refine ⟨?_, hn4, ⟨sv, hob, ?_⟩, hw5.mono fun j _ h => .inr (.inr ⟨r, hin, .inl h⟩)⟩
  · rw [ht]
    exact hsl.chg ((Chg.refl (fun j => j = r.blk) w4).setCell (.inl rfl) _) fun j hj e => by have := hn4 j hj; omega
  · rw [ht]; exact hf

set_option maxRecDepth 100000 in
set_option maxHeartbeats 4000000 in
theorem take_all (fb mb last : Nat) (A B : List Row) (r : Row) (n : Int) (w : World) (h : FeedRows w fb mb last (A ++ r :: B)) :
    Calls Try.prog 12 #[.pointer (some ⟨fb, 0, none⟩), .int .u64 r.id, .int .i64 n] w fun e w' => ∃ v, e = .returned (.tuple #[v, .int .i64 0]) ∧ Took w fb mb last A B r n v w' := by
  have hin : r ∈ A ++ r :: B := by simp
  have hm0 := made_any fb mb (.int .u64 last) w h.feed
  have hc0 : w.cell? ⟨fb, 0, none⟩ = some (.map (some mb)) := by simp [World.cell?, h.feed]
  have hlk := look_row h hin
  have hrow := h.row r hin
  obtain ⟨sa, sc, hsv, hsc⟩ := Sl.shape2 hrow.sl
  rw [List.length_map] at hsv hsc
  obtain ⟨k, hk⟩ : ∃ k : Nat, (k : Int) = min (max n 0) r.items.length := ⟨(min (max n 0) (r.items.length : Int)).toNat, by omega⟩
  have hkm : k ≤ r.items.length := by omega
  have h16 := h.few r hin
  have hkn : k = min n.toNat r.items.length := by omega
  have hslk : Sl w 40 35 (.slice sa k k) ((r.items.take k).map It.cells) := by
    have hs := hrow.sl
    rw [hsv] at hs
    have := hs.sliced (l := 0) (hi := k) (m := k) (by omega) (by simpa using hkm) (Nat.le_refl _) (by omega)
    rw [sliced0] at this
    simpa [List.map_take] using this
  have hclone := clone_any (.slice sa k k) (r.items.take k) w hslk (by rw [List.length_take]; omega)
  have hb0 : w.cell? ⟨r.blk, 0, none⟩ = some (.slice sa r.items.length sc) := by simp [World.cell?, hrow.cell, hsv]
  have HB1 : Hid (w.cell? ⟨r.blk, 1, none⟩ = some (.int .u64 r.lost)) := by unfold Hid; simp [World.cell?, hrow.cell]
  have H : Hid (FeedRows w fb mb last (A ++ r :: B)) := h
  have HSV : Hid (r.sv = .slice sa r.items.length sc) := hsv
  have HKN : Hid (k = min n.toNat r.items.length) := hkn
  have HIN : Hid (r ∈ A ++ r :: B) := hin
  obtain ⟨m, hm⟩ : ∃ m, m = r.items.length := ⟨_, rfl⟩
  rw [← hm] at hb0 hk hkm h16 hsc
  have HM : Hid (m = r.items.length) := hm
  have hk1 : min (max n 0) (m : Int) = k := hk.symm
  have hk2 : (k : Int) ≤ sc := by omega
  clear h hrow hslk hm hin hsv hkn hk
  go_enter Try.func12, Try.ntmps12
  go_wp2_with fail
  refine hm0.mono ?_
  rintro e w9 ⟨rfl, hw9⟩
  rw [hw9]
  clear hw9 w9 hm0
  go_wp2_with fail
  refine hclone.mono ?_
  rintro e w1 ⟨v', rfl, hslv, hnew, hB⟩
  obtain ⟨va, vc, hva, hvc⟩ := Sl.shape2 hslv
  have hlk2 : ((r.items.take k).map It.cells).length = k := by rw [List.length_map, List.length_take, ← HM.out]; omega
  rw [hlk2] at hva hvc
  subst hva
  obtain ⟨hF1, hR8, hob8, hne8, hbl8⟩ := took_row H.out hB HSV.out (k := k) (by rw [← HM.out]; exact hkm) (by rw [← HM.out]; exact hsc)
  rw [← HM.out] at hR8 hob8
  obtain ⟨xa, xl, xc, hV8⟩ : ∃ xa xl xc, Go.sliced sa k m sc 35 = .slice xa xl xc := ⟨_, _, _, rfl⟩
  have hs8 := run_slice_l40 w1 sa k m sc hkm
  rw [hV8] at hR8 hob8 hs8
  have hd0 : w1.cell? ⟨r.blk, 0, none⟩ = some (.slice sa m sc) := by rw [hB.cell hbl8]; exact hb0
  have hdf : w1.frozen? ⟨r.blk, 0, none⟩ = false := by simp [World.frozen?, (hF1.row r HIN.out).cell]
  obtain ⟨w2, hw2⟩ : ∃ w2, w1.setCell ⟨r.blk, 0, none⟩ (.slice xa xl xc) = w2 := ⟨_, rfl⟩
  have HC2 : Hid (Chg (fun j => j = r.blk) w1 w2) := by unfold Hid; rw [← hw2]; exact (Chg.refl (fun j => j = r.blk) w1).setCell (.inl rfl) _
  rw [hw2] at hR8
  have he1 : w2.cell? ⟨r.blk, 1, none⟩ = some (.int .u64 r.lost) := by simp [World.cell?, hR8.cell]
  have HBW : Hid (Below w.heap.size w w1) := hB
  have HR8 : Hid (RowAt w2 r.blk (.slice xa xl xc) (r.items.drop k) r.lost) := hR8
  have HOB : Hid ((Value.slice xa xl xc).ownBlock = r.sv.ownBlock) := hob8
  have HF1 : Hid (FeedRows w1 fb mb last (A ++ r :: B)) := hF1
  have HSL : Hid (Sl w1 40 35 (.slice va k vc) ((r.items.take k).map It.cells)) := hslv
  have HNW : Hid (∀ j, (Value.slice va k vc).ownBlock = some j → w.heap.size ≤ j) := hnew
  have HNE : Hid (r.sv.ownBlock ≠ some r.blk) := hne8
  have HBL : Hid (r.blk < w.heap.size) := hbl8
  have HHF : Hid (w2.frozen? ⟨r.blk, 1, none⟩ = false) := by unfold Hid; simp [World.frozen?, hR8.cell]
  have HK1 : Hid (min (max n 0) (m : Int) = k) := hk1
  clear hclone hob8 hF1 hslv hnew hne8 hbl8 hB hR8 hb0 hV8 hc0 hlk hk1
  have hlen20 : (r.items.take k).length < 20 := by rw [List.length_take]; omega
  clear hk2
  by_cases hg : (k : Int) < n ∧ 0 < r.lost
  · obtain ⟨hg1, hg2⟩ := hg
    have hslw2 : Sl w2 40 35 (.slice va k vc) ((r.items.take k).map It.cells) := HSL.out.chg HC2.out fun j hj e => by have := HNW.out j hj; have := HBL.out; omega
    obtain ⟨v4, w4, hap, hsl4, hch4, hown4⟩ := more_sl hslw2 (gap r.lost) hlen20
    obtain ⟨a4, c4, ha4, _⟩ := Sl.shape2 hsl4
    obtain ⟨l4, hl4⟩ : ∃ l4, l4 = ((r.items.take k ++ [gap r.lost]).map It.cells).length := ⟨_, rfl⟩
    rw [← hl4] at ha4
    obtain ⟨J, hJ⟩ : ∃ J, J = (gap r.lost).cells.toArray := ⟨_, rfl⟩
    rw [← hJ] at hap hch4
    obtain ⟨W3, hW3⟩ : ∃ W3, W3 = w2.alloc (.cells J 40) := ⟨_, rfl⟩
    have hbd : (Instr.build 40 #[(1, .int .u64 r.lost)]).run Try.prog w2 = .ok (.agg J) w2 := by rw [hJ]; exact build40g _ _
    have hbs : (Instr.buildSlice 32 1 #[(0, .agg J)]).run Try.prog w2 = .ok (.slice (some ⟨w2.heap.size, 0, none⟩) 1 1) W3 := by rw [hW3, hJ]; exact bs32 _ _ _ _ _
    rw [← hW3] at hap
    have hT := took_gap H.out HBW.out HR8.out HOB.out HNW.out HC2.out HKN.out hg1 hg2 hsl4 (by rw [← hJ]; exact hch4) hown4
    have hb4 : w4.heap[r.blk]? = some (.cells #[.slice xa xl xc, .int .u64 r.lost] 74) := by
      rw [hch4.block r.blk (by have := lt_of_at HR8.out.cell; simp; omega) (fun h => by have := HNW.out _ h; have := HBL.out; omega), Below.heap_alloc _ _ _ (lt_of_at HR8.out.cell)]
      exact HR8.out.cell
    have hf4 : w4.frozen? ⟨r.blk, 1, none⟩ = false := by simp [World.frozen?, hb4]
    have hc41 : w4.cell? ⟨r.blk, 1, none⟩ = some (.int .u64 r.lost) := by simp [World.cell?, hb4]
    have hc31 : W3.cell? ⟨r.blk, 1, none⟩ = some (.int .u64 r.lost) := by
      rw [hW3, World.cell?_alloc_past _ _ _ (lt_of_at HR8.out.cell)]; simp [World.cell?, HR8.out.cell]
    subst ha4
    have HT : Hid (Took w fb mb last A B r n (.slice a4 l4 c4) (w4.setCell ⟨r.blk, 1, none⟩ (.int .u64 0))) := hT
    clear hslw2 hsl4 hch4 hown4 hl4 hJ hW3 hT hb4
    go_wp2_with (first
      | ((with_reducible refine Step.wpList_op (.slice 32 (.tmp 42) (some (.tmp 43)) none none) rfl ?_); refine Step.wpList_run rfl _ _ (Ex.slice rfl hs8) ?_)
      | ((with_reducible refine Step.wpList_op (.build 40 #[(1, .tmp 62)]) rfl ?_); refine Step.wpList_run rfl (.agg J) w2 (Ex.build1 rfl hbd) ?_)
      | ((with_reducible refine Step.wpList_op (.buildSlice 32 1 #[(0, .tmp 63)]) rfl ?_); refine Step.wpList_run rfl _ W3 (Ex.buildSlice1 rfl hbs) ?_)
      | ((with_reducible refine Step.wpList_op (.call { callee := .builtin .append, args := #[.tmp 58, .tmp 64], argTypes := #[32, 32] }) rfl ?_); refine Step.wpList_run rfl _ w4 (Ex.append (t := 32) rfl hap) ?_))
    go_ret2
    exact ⟨_, rfl, HT.out⟩
  · have HT : Hid (Took w fb mb last A B r n (.slice va k vc) w2) := took_done H.out HBW.out HR8.out HOB.out HSL.out HNW.out HC2.out HKN.out hg
    by_cases hg1 : (k : Int) < n
    · have hg2 : ¬ 0 < r.lost := fun h => hg ⟨hg1, h⟩
      go_wp2_with ((with_reducible refine Step.wpList_op (.slice 32 (.tmp 42) (some (.tmp 43)) none none) rfl ?_); refine Step.wpList_run rfl _ _ (Ex.slice rfl hs8) ?_)
      go_ret2
      exact ⟨_, rfl, HT.out⟩
    · go_wp2_with ((with_reducible refine Step.wpList_op (.slice 32 (.tmp 42) (some (.tmp 43)) none none) rfl ?_); refine Step.wpList_run rfl _ _ (Ex.slice rfl hs8) ?_)
      go_ret2
      exact ⟨_, rfl, HT.out⟩
end Go.Proofs.Ytdljloohgidbfaa
