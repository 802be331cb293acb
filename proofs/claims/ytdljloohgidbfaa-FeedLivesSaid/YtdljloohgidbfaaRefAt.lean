/-
  The document's feed in memory.
-/
import Derived.Test.YtdljloohgidbfaaFeedWaits
import Derived.Test.YtdljloohgidbfaaMem2
namespace Go.Proofs.Ytdljloohgidbfaa
open Go Go.RowKit Go.Mem

/-- a watcher of the document's: its number, its slice, its items, how many were left out -/
structure RRow where
  id : Nat
  sv : Value
  items : List It
  lost : Nat
def RRow.cells (r : RRow) : List Value := [.int .u64 r.id, r.sv, .int .u64 r.lost]
theorem RRow.len (r : RRow) : r.cells.length = 3 := rfl
def absRR (r : RRow) : AR := (r.id, r.items, r.lost)

structure RefRows (w : World) (xb last : Nat) (sv : Value) (rows : List RRow) : Prop where
  cell : w.heap[xb]? = some (.cells #[sv, .int .u64 last] 53)
  sl : Sl w 66 3 sv (rows.map RRow.cells)
  row : ∀ r ∈ rows, Sl w 80 35 r.sv (r.items.map It.cells)
  apart : rows.Pairwise fun r s => ∀ k, r.sv.ownBlock = some k → s.sv.ownBlock ≠ some k
  ids : rows.Pairwise fun r s => r.id < s.id
  upto : ∀ r ∈ rows, r.id ≤ last
  big : last < 1000000
  few : ∀ r ∈ rows, r.items.length ≤ 16
  num : rows.length ≤ 8

def RFoot (xb : Nat) (sv : Value) (rows : List RRow) (k : Nat) : Prop := k = xb ∨ sv.ownBlock = some k ∨ ∃ r ∈ rows, r.sv.ownBlock = some k

theorem RFoot.lt {w : World} {xb last : Nat} {sv : Value} {rows : List RRow} (h : RefRows w xb last sv rows) {k : Nat} (hk : RFoot xb sv rows k) : k < w.heap.size := by
  rcases hk with rfl | hk | ⟨r, hr, hk⟩
  · exact lt_of_at h.cell
  · exact h.sl.lt hk
  · exact (h.row r hr).lt hk
theorem RefRows.keep {w w' : World} {xb last : Nat} {sv : Value} {rows : List RRow} (h : RefRows w xb last sv rows) {S : Nat → Prop} (c : Chg S w w') (hS : ∀ k, RFoot xb sv rows k → ¬ S k) : RefRows w' xb last sv rows :=
  ⟨c.at h.cell (hS _ (.inl rfl)), h.sl.chg c fun k hk => hS k (.inr (.inl hk)), fun r hr => (h.row r hr).chg c fun k hk => hS k (.inr (.inr ⟨r, hr, hk⟩)), h.apart, h.ids, h.upto, h.big, h.few, h.num⟩

/-- x is a document's feed with F, in the blocks of S -/
def IsRef (w : World) (p : Value) (F : Nat × List AR) (S : Nat → Prop) : Prop :=
  ∃ xb sv rows, p = .pointer (some ⟨xb, 0, none⟩) ∧ RefRows w xb F.1 sv rows ∧ rows.map absRR = F.2 ∧ ∀ k, S k ↔ RFoot xb sv rows k
theorem IsRef.lt {w : World} {p : Value} {F : Nat × List AR} {S : Nat → Prop} (h : IsRef w p F S) {k : Nat} (hk : S k) : k < w.heap.size := by
  obtain ⟨xb, sv, rows, rfl, hf, _, hS⟩ := h
  exact RFoot.lt hf ((hS k).1 hk)
theorem IsRef.keep {w w' : World} {p : Value} {F : Nat × List AR} {S T : Nat → Prop} (h : IsRef w p F S) (c : Chg T w w') (ht : ∀ k, S k → ¬ T k) : IsRef w' p F S := by
  obtain ⟨xb, sv, rows, rfl, hf, hF, hS⟩ := h
  exact ⟨xb, sv, rows, rfl, hf.keep c fun k hk => ht k ((hS k).2 hk), hF, hS⟩

theorem info66 : ∃ i, Try.prog.info? 66 = some i ∧ i.zero = some (.agg #[.int .u64 0, .slice none 0 0, .int .u64 0]) ∧ i.size = 3 ∧ i.bytes = 40 := by
  have h : (Try.prog.info? 66).map (fun i => (i.zero, i.size, i.bytes)) = some (some (.agg #[.int .u64 0, .slice none 0 0, .int .u64 0]), 3, 40) := by kernel_rfl
  cases hq : Try.prog.info? 66 with
  | none => rw [hq] at h; cases h
  | some i0 => rw [hq] at h; simp at h; exact ⟨i0, rfl, h.1, h.2.1, h.2.2⟩
theorem info80 : ∃ i, Try.prog.info? 80 = some i ∧ i.zero = some (.agg (itC 0 0 0 0).toArray) ∧ i.size = 35 ∧ i.bytes = 56 := by
  have h : (Try.prog.info? 80).map (fun i => (i.zero, i.size, i.bytes)) = some (some (.agg (itC 0 0 0 0).toArray), 35, 56) := by kernel_rfl
  cases hq : Try.prog.info? 80 with
  | none => rw [hq] at h; cases h
  | some i0 => rw [hq] at h; simp at h; exact ⟨i0, rfl, h.1, h.2.1, h.2.2⟩
theorem info78 : ∃ i, Try.prog.info? 78 = some i ∧ i.zero = some (.agg (evC 0 0 0).toArray) ∧ i.size = 34 ∧ i.bytes = 48 := by
  have h : (Try.prog.info? 78).map (fun i => (i.zero, i.size, i.bytes)) = some (some (.agg (evC 0 0 0).toArray), 34, 48) := by kernel_rfl
  cases hq : Try.prog.info? 78 with
  | none => rw [hq] at h; cases h
  | some i0 => rw [hq] at h; simp at h; exact ⟨i0, rfl, h.1, h.2.1, h.2.2⟩

/-- one row turned -/
theorem RefRows.turn {w w' : World} {xb last : Nat} {sv : Value} {A B : List RRow} {r : RRow} (h : RefRows w xb last sv (A ++ r :: B)) (r' : RRow) (hid : r'.id = r.id) (hsl : Sl w' 66 3 sv ((A ++ r' :: B).map RRow.cells)) (hrow : Sl w' 80 35 r'.sv (r'.items.map It.cells)) (hn : r'.items.length ≤ 16)
    (c : Chg (fun k => sv.ownBlock = some k ∨ r.sv.ownBlock = some k) w w') (ho : ∀ k, r'.sv.ownBlock = some k → r.sv.ownBlock = some k ∨ w.heap.size ≤ k) :
    RefRows w' xb last sv (A ++ r' :: B) := by
  have hr := h.row r (by simp)
  have hxb : ¬ (sv.ownBlock = some xb ∨ r.sv.ownBlock = some xb) := by
    rintro (e | e)
    · exact own_row h.sl h.cell (by decide) e
    · exact own_row hr h.cell (by decide) e
  have hmem : ∀ s, s ∈ A ++ B → s ∈ A ++ r :: B := fun s hs => by
    rcases List.mem_append.1 hs with hs | hs
    · exact List.mem_append.2 (.inl hs)
    · exact List.mem_append.2 (.inr (List.mem_cons_of_mem _ hs))
  have hsplit : ∀ s, s ∈ A ++ r' :: B → s ∈ A ++ B ∨ s = r' := fun s hs => by
    rcases List.mem_append.1 hs with hs | hs
    · exact .inl (List.mem_append.2 (.inl hs))
    · rcases List.mem_cons.1 hs with rfl | hs
      · exact .inr rfl
      · exact .inl (List.mem_append.2 (.inr hs))
  have hap := List.pairwise_append.1 h.apart
  have hap2 := List.pairwise_cons.1 hap.2.1
  have hne : ∀ s, s ∈ A ++ B → ∀ k, s.sv.ownBlock = some k → r.sv.ownBlock ≠ some k := fun s hs k hk hk' => by
    rcases List.mem_append.1 hs with hs | hs
    · exact hap.2.2 s hs r (by simp) k hk hk'
    · exact hap2.1 s hs k hk' hk
  have hown : ∀ s, s ∈ A ++ B → ∀ k, s.sv.ownBlock = some k → r'.sv.ownBlock ≠ some k := by
    intro s hs k hk hk'
    rcases ho k hk' with ho | hl
    · exact hne s hs k hk ho
    · have := (h.row s (hmem s hs)).lt hk
      omega
  refine ⟨c.at h.cell hxb, hsl, fun s hs => ?_, ?_, ?_, fun s hs => ?_, h.big, fun s hs => ?_, by have := h.num; simpa using this⟩
  · rcases hsplit s hs with hs | rfl
    · refine (h.row s (hmem s hs)).chg c fun k hk => ?_
      rintro (e | e)
      · exact two_sl (h.row s (hmem s hs)) h.sl (by decide) hk e
      · exact hne s hs k hk e
    · exact hrow
  · refine List.pairwise_append.2 ⟨hap.1, List.pairwise_cons.2 ⟨fun s hs k hk hk' => hown s (List.mem_append.2 (.inr hs)) k hk' hk, hap2.2⟩, fun s hs t ht => ?_⟩
    rcases List.mem_cons.1 ht with rfl | ht
    · exact fun k hk => hown s (List.mem_append.2 (.inl hs)) k hk
    · exact hap.2.2 s hs t (List.mem_cons_of_mem _ ht)
  · have hi := List.pairwise_append.1 h.ids
    have hi2 := List.pairwise_cons.1 hi.2.1
    refine List.pairwise_append.2 ⟨hi.1, List.pairwise_cons.2 ⟨fun s hs => by rw [hid]; exact hi2.1 s hs, hi2.2⟩, fun s hs t ht => ?_⟩
    rcases List.mem_cons.1 ht with rfl | ht
    · rw [hid]; exact hi.2.2 s hs r (by simp)
    · exact hi.2.2 s hs t (List.mem_cons_of_mem _ ht)
  · rcases hsplit s hs with hs | rfl
    · exact h.upto s (hmem s hs)
    · rw [hid]; exact h.upto r (by simp)
  · rcases hsplit s hs with hs | rfl
    · exact h.few s (hmem s hs)
    · exact hn

theorem row_cells {w : World} {g o n cap : Nat} {A B : List RRow} {r : RRow} (h : Sl w 66 3 (.slice (some ⟨g, o, none⟩) n cap) ((A ++ r :: B).map RRow.cells)) :
    w.cell? ⟨g, o + A.length * 3, none⟩ = some (.int .u64 r.id) ∧ w.cell? ⟨g, o + A.length * 3 + 1, none⟩ = some r.sv ∧ w.cell? ⟨g, o + A.length * 3 + 2, none⟩ = some (.int .u64 r.lost) := by
  obtain ⟨g', o', c, hv, hr⟩ := h.at (i := A.length) (x := r.cells) (by simp)
  cases hv
  exact ⟨by have := hr 0 _ rfl; simpa using this, hr 1 _ rfl, hr 2 _ rfl⟩
theorem row_some {w : World} {a : Option Addr} {n cap : Nat} {A B : List RRow} {r : RRow} (h : Sl w 66 3 (.slice a n cap) ((A ++ r :: B).map RRow.cells)) : ∃ g o, a = some ⟨g, o, none⟩ := by
  obtain ⟨g', o', c, hv, hr⟩ := h.at (i := A.length) (x := r.cells) (by simp)
  exact ⟨g', o', (Value.slice.inj hv).1⟩

set_option maxRecDepth 100000 in
set_option maxHeartbeats 2000000 in
/-- FIND -/
theorem find_walk (xb last : Nat) (sv : Value) (rows : List RRow) (x : Nat) (w : World) (h : RefRows w xb last sv rows) :
    Calls Try.prog 29 #[.pointer (some ⟨xb, 0, none⟩), .int .u64 x] w fun e w' => w' = w ∧ ((e = .returned (.int .i64 (-1)) ∧ ∀ r ∈ rows, r.id ≠ x) ∨ ∃ A r B, rows = A ++ r :: B ∧ r.id = x ∧ e = .returned (.int .i64 A.length)) := by
  obtain ⟨a, c, hsv, _⟩ := Sl.shape2 h.sl
  rw [List.length_map] at hsv
  have hc0 : w.cell? ⟨xb, 0, none⟩ = some (.slice a rows.length c) := by simp [World.cell?, h.cell, hsv]
  have hs := h.sl
  rw [hsv] at hs
  obtain ⟨n, hn⟩ : ∃ n, n = rows.length := ⟨_, rfl⟩
  rw [← hn] at hc0 hs
  have H : Hid (Sl w 66 3 (.slice a n c) (rows.map RRow.cells)) := hs
  have HN : Hid (n = rows.length) := hn
  have hn8 : n ≤ 8 := by rw [hn]; exact h.num
  clear h hsv hs hn
  go_enter Try.func29, Try.ntmps29
  go_wp2_with fail
  go_loopw [5] (fun i wr => ∃ j : Nat, j ≤ n ∧ i = .int .i64 j ∧ wr = w ∧ ∀ r ∈ rows.take j, r.id ≠ x) (fun i _ => n - (intOf i).toNat)
  case atStart => exact ⟨0, Nat.zero_le _, rfl, rfl, fun r hr => by simp at hr⟩
  case round =>
    obtain ⟨j, hj, rfl, rfl, htk⟩ := hrel
    have HT : Hid (∀ r ∈ rows.take j, r.id ≠ x) := htk
    clear htk
    by_cases hjn : j < n
    · obtain ⟨r, hr⟩ : ∃ r, rows[j]? = some r := ⟨_, List.getElem?_eq_getElem (by rw [← HN.out]; exact hjn)⟩
      have hsp : rows = rows.take j ++ r :: rows.drop (j + 1) := by
        have h1 := List.drop_eq_getElem_cons (l := rows) (i := j) (by rw [← HN.out]; exact hjn)
        have h2 := (List.getElem?_eq_some_iff.1 hr).2
        rw [h2] at h1
        rw [← h1, List.take_append_drop]
      have hlt : (rows.take j).length = j := by rw [List.length_take, ← HN.out]; omega
      have hs := H.out
      rw [hsp] at hs
      obtain ⟨g, o, rfl⟩ := row_some hs
      obtain ⟨k0, _, _⟩ := row_cells hs
      rw [hlt] at k0
      have HSP : Hid (rows = rows.take j ++ r :: rows.drop (j + 1)) := hsp
      have HLT : Hid ((rows.take j).length = j) := hlt
      have HR : Hid (rows[j]? = some r) := hr
      clear hr hsp hlt hs
      by_cases hx : r.id = x
      · have HX : Hid (r.id = x) := hx
        have hx' : (r.id : Int) = x := by omega
        clear hx
        go_wp2_with fail
        go_ret
        exact ⟨rfl, .inr ⟨rows.take j, r, _, HSP.out, HX.out, by rw [HLT.out]; rfl⟩⟩
      · have hx' : ¬ (r.id : Int) = x := by omega
        have HX : Hid (r.id ≠ x) := hx
        clear hx
        go_wp2_with fail
        refine ⟨⟨j + 1, by omega, by go_num, by simp, ?_⟩, ?_⟩
        · intro s hs
          rw [List.take_add_one, HR.out] at hs
          rcases List.mem_append.1 hs with hs | hs
          · exact HT.out s hs
          · simp at hs; rw [hs]; exact HX.out
        · simp [intOf]; omega
    · have hjn' : j = n := by omega
      have HJ : Hid (j = n) := hjn'
      clear hjn'
      go_wp2_with fail
      go_ret
      refine ⟨rfl, .inl ⟨rfl, ?_⟩⟩
      have h1 := HT.out
      rw [HJ.out, HN.out, List.take_length] at h1
      exact h1

theorem find_in {xb last : Nat} {sv : Value} {A B : List RRow} {r : RRow} {w : World} (h : RefRows w xb last sv (A ++ r :: B)) :
    Calls Try.prog 29 #[.pointer (some ⟨xb, 0, none⟩), .int .u64 r.id] w fun e w' => e = .returned (.int .i64 A.length) ∧ w' = w := by
  refine (find_walk xb last sv _ r.id w h).mono ?_
  rintro e w' ⟨rfl, ⟨_, hn⟩ | ⟨A', r', B', he, hid, rfl⟩⟩
  · exact absurd rfl (hn r (by simp))
  · refine ⟨?_, rfl⟩
    have hp := h.ids
    have key : ∀ (A A' : List RRow), (A ++ r :: B).Pairwise (fun r s => r.id < s.id) → A ++ r :: B = A' ++ r' :: B' → A.length = A'.length := by
      intro A
      induction A with
      | nil =>
        intro A' hp he
        cases A' with
        | nil => rfl
        | cons z A' =>
          simp at he
          have := (List.pairwise_cons.1 hp).1 r' (by rw [he.2]; simp)
          omega
      | cons y A ih =>
        intro A' hp he
        have hp := List.pairwise_cons.1 (show (y :: (A ++ r :: B)).Pairwise (fun r s => r.id < s.id) from hp)
        cases A' with
        | nil =>
          simp at he
          have := hp.1 r (by simp)
          rw [he.1] at this
          omega
        | cons z A' =>
          simp at he
          simp [ih A' hp.2 he.2]
    rw [key A A' hp he]
theorem find_out {xb last : Nat} {sv : Value} {rows : List RRow} {x : Nat} {w : World} (h : RefRows w xb last sv rows) (hx : ∀ r ∈ rows, r.id ≠ x) :
    Calls Try.prog 29 #[.pointer (some ⟨xb, 0, none⟩), .int .u64 x] w fun e w' => e = .returned (.int .i64 (-1)) ∧ w' = w := by
  refine (find_walk xb last sv rows x w h).mono ?_
  rintro e w' ⟨rfl, ⟨rfl, _⟩ | ⟨A, r, B, rfl, hid, rfl⟩⟩
  · exact ⟨rfl, rfl⟩
  · exact absurd hid (hx r (by simp))
end Go.Proofs.Ytdljloohgidbfaa
