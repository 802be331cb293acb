/-
  The document's Watch, Waits and Leave.
-/
import Derived.Test.YtdljloohgidbfaaRefPush
namespace Go.Proofs.Ytdljloohgidbfaa
open Go Go.RowKit Go.Mem

theorem bs51 (r : RRow) (a : Option Addr) (n c : Nat) (hv : r.sv = .slice a n c) (w : World) : (Instr.buildSlice 51 1 #[(0, .agg r.cells.toArray)]).run Try.prog w = .ok (.slice (some ⟨w.heap.size, 0, none⟩) 1 1) (w.alloc (.cells r.cells.toArray 66)) := by
  obtain ⟨ie, hi, hz, hs, _⟩ := info66
  unfold RRow.cells
  rw [hv]
  refine run_buildSlice w 51 66 1 _ _ ie _ Try.underlying51 hi hz (by rw [hs]; decide) (by rw [hs]; decide) ?_
  rw [hs]
  kernel_rfl

set_option maxRecDepth 100000 in
set_option maxHeartbeats 4000000 in
theorem rwatch_walk (xb last : Nat) (sv : Value) (rows : List RRow) (w : World) (h : RefRows w xb last sv rows) (hn : rows.length < 8) (hl : last + 1 < 1000000) :
    Calls Try.prog 16 #[.pointer (some ⟨xb, 0, none⟩)] w fun e w' => e = .returned (.tuple #[.int .u64 ((last : Int) + 1), .int .i64 0]) ∧
      ∃ sv', RefRows w' xb (last + 1) sv' (rows ++ [⟨last + 1, .slice none 0 0, [], 0⟩]) ∧ Chg (RFoot xb sv rows) w w' ∧ (∀ k, sv'.ownBlock = some k → sv.ownBlock = some k ∨ w.heap.size ≤ k) := by
  obtain ⟨a, c, hsv, _⟩ := Sl.shape2 h.sl
  rw [List.length_map] at hsv
  subst hsv
  obtain ⟨n, hnn⟩ : ∃ n, n = rows.length := ⟨_, rfl⟩
  rw [← hnn] at h hn ⊢
  have hc0 : w.cell? ⟨xb, 0, none⟩ = some (.slice a n c) := by simp [World.cell?, h.cell]
  have hc1 : w.cell? ⟨xb, 1, none⟩ = some (.int .u64 last) := by simp [World.cell?, h.cell]
  have hf1 : w.frozen? ⟨xb, 1, none⟩ = false := by simp [World.frozen?, h.cell]
  have hxb := lt_of_at h.cell
  obtain ⟨w1, hw1⟩ : ∃ w1, w1 = w.setCell ⟨xb, 1, none⟩ (.int .u64 ((last : Int) + 1)) := ⟨_, rfl⟩
  have c1 : Chg (fun k => k = xb) w w1 := by rw [hw1]; exact (Chg.refl (fun k => k = xb) w).setCell (.inl rfl) _
  have hb1 : w1.heap[xb]? = some (.cells #[.slice a n c, .int .u64 ((last : Int) + 1)] 53) := by
    rw [hw1]
    simp only [World.setCell, Array.getElem?_modify, h.cell]
    simp
  obtain ⟨R, hR⟩ : ∃ R : RRow, R = ⟨last + 1, .slice none 0 0, [], 0⟩ := ⟨_, rfl⟩
  obtain ⟨W0, hW0⟩ : ∃ W0, W0 = w1.drew := ⟨_, rfl⟩
  obtain ⟨hs, hhs⟩ : ∃ hs, hs = W0.heap.size := ⟨_, rfl⟩
  obtain ⟨W1, hW1⟩ : ∃ W1, W1 = W0.alloc (.cells R.cells.toArray 66) := ⟨_, rfl⟩
  have cW0 : Chg (fun k => k = xb) w W0 := by rw [hW0]; exact c1.drew
  have cW1 : Chg (fun k => k = xb) w W1 := by rw [hW1]; exact cW0.alloc _
  have hbW0 : W0.heap[xb]? = some (.cells #[.slice a n c, .int .u64 ((last : Int) + 1)] 53) := by rw [hW0]; exact hb1
  have hbW1 : W1.heap[xb]? = some (.cells #[.slice a n c, .int .u64 ((last : Int) + 1)] 53) := by rw [hW1]; exact (Below.heap_alloc _ _ _ (lt_of_at hbW0)).trans hbW0
  have hob : (Value.slice a n c).ownBlock ≠ some xb := own_row h.sl h.cell (by decide)
  have hslW1 : Sl W1 66 3 (.slice a n c) (rows.map RRow.cells) := h.sl.chg cW1 fun k hk e => hob (by rw [hk, e])
  obtain ⟨ie, hi, hz, hsz, hby⟩ := info66
  obtain ⟨v2, W2, hap, hsl2, cA, hown, _⟩ := Sl.append (P := Try.prog) 51 51 Try.underlying51 hi hz hsz hby rfl hslW1 ⟨hs, 0, none⟩ 1 [R.cells] (fun y hy => by rw [List.mem_singleton.1 hy]; rfl)
      (fun j u hj => by
        rw [Addr.add_mid, Nat.zero_add, hW1, hhs]
        simp only [World.cell?, heap_alloc_new]
        simpa using hj)
      (fun y hy => by rw [List.mem_singleton.1 hy, hR]; exact one_row (w := w) (e := 80) (sz := 35) (xs := []) (Sl.nil _ _ _))
      (by simp) (by simp only [List.length_map, List.length_singleton]; unfold maxLen; omega) (by simp only [List.length_map, List.length_singleton]; omega)
  obtain ⟨a2, c2, hv2⟩ := hsl2.shape
  obtain ⟨n2, hn2⟩ : ∃ n2, n2 = (rows.map RRow.cells ++ [R.cells]).length := ⟨_, rfl⟩
  rw [← hn2] at hv2
  subst hv2
  obtain ⟨W3, hW3⟩ : ∃ W3, W3 = W2.setCell ⟨xb, 0, none⟩ (.slice a2 n2 c2) := ⟨_, rfl⟩
  have hbW2 : W2.heap[xb]? = some (.cells #[.slice a n c, .int .u64 ((last : Int) + 1)] 53) := cA.at hbW1 hob
  have hbW3 : W3.heap[xb]? = some (.cells #[.slice a2 n2 c2, .int .u64 ((last : Int) + 1)] 53) := by
    rw [hW3]
    simp only [World.setCell, Array.getElem?_modify, hbW2]
    simp
  have hst : (Instr.storeAt 51 (.pointer (some ⟨xb, 0, none⟩)) (.slice a2 n2 c2)).run Try.prog W2 = .ok () W3 := by
    rw [hW3]; exact Ex.store1 (by kernel_rfl) rfl rfl (u := .slice a n c) (by simp [World.cell?, hbW2]) (by simp [World.frozen?, hbW2])
  have c3 : Chg (fun k => k = xb) W2 W3 := by rw [hW3]; exact (Chg.refl (fun k => k = xb) W2).setCell (.inl rfl) _
  have hcAll : Chg (fun k => k = xb ∨ (Value.slice a n c).ownBlock = some k) w W3 := (((cW1.mono (T := fun k => k = xb ∨ (Value.slice a n c).ownBlock = some k) fun _ _ h => .inl h).trans (cA.mono fun k _ h => .inl (.inr h))).trans (c3.mono fun k _ h => .inl (.inl h)))
  have hnew : ∀ k, (Value.slice a2 n2 c2).ownBlock = some k → (Value.slice a n c).ownBlock = some k ∨ w.heap.size ≤ k := fun k hk => by
    rcases hown with ho | ho
    · exact .inl (by rw [← ho]; exact hk)
    · rw [ho] at hk; cases hk; exact .inr cW1.size
  have HF : Hid (RefRows W3 xb (last + 1) (.slice a2 n2 c2) (rows ++ [R])) := by
    have hown2 : (Value.slice a2 n2 c2).ownBlock ≠ some xb := fun he => by
      rcases hnew xb he with h1 | h1
      · exact hob h1
      · omega
    refine ⟨by simpa using hbW3, ?_, ?_, ?_, ?_, ?_, hl, ?_, by rw [List.length_append, ← hnn]; simp; omega⟩
    · rw [List.map_append]
      exact hsl2.chg c3 fun k hk e => hown2 (by rw [hk, e])
    · intro s hs
      rcases List.mem_append.1 hs with hs | hs
      · refine (h.row s hs).chg hcAll fun k hk => ?_
        rintro (e | e)
        · subst e; exact own_row (h.row s hs) h.cell (by decide) hk
        · exact two_sl (h.row s hs) h.sl (by decide) hk e
      · obtain rfl := List.mem_singleton.1 hs
        rw [hR]; exact Sl.nil _ _ _
    · refine List.pairwise_append.2 ⟨h.apart, List.pairwise_singleton _ _, fun s hs t ht k hk => ?_⟩
      obtain rfl := List.mem_singleton.1 ht
      rw [hR]; simp [Value.ownBlock]
    · refine List.pairwise_append.2 ⟨h.ids, List.pairwise_singleton _ _, fun s hs t ht => ?_⟩
      obtain rfl := List.mem_singleton.1 ht
      have := h.upto s hs
      rw [hR]; simp only; omega
    · intro s hs
      rcases List.mem_append.1 hs with hs | hs
      · have := h.upto s hs; omega
      · obtain rfl := List.mem_singleton.1 hs
        rw [hR]; exact Nat.le_refl _
    · intro s hs
      rcases List.mem_append.1 hs with hs | hs
      · exact h.few s hs
      · obtain rfl := List.mem_singleton.1 hs
        rw [hR]; simp
  have HC : Hid (Chg (RFoot xb (.slice a n c) rows) w W3) := hcAll.mono fun k _ hk => by
    rcases hk with hk | hk
    · exact .inl hk
    · exact .inr (.inl hk)
  have HNEW : Hid (∀ k, (Value.slice a2 n2 c2).ownBlock = some k → (Value.slice a n c).ownBlock = some k ∨ w.heap.size ≤ k) := hnew
  have hl0 : (Instr.loadAt 51 (.pointer (some ⟨xb, 0, none⟩))).run Try.prog W0 = .ok (.slice a n c) W0 := Ex.load1 Try.underlying51 rfl (by simp [World.cell?, hbW0])
  have hl1 : (Instr.loadAt 51 (.pointer (some ⟨xb, 0, none⟩))).run Try.prog W1 = .ok (.slice a n c) W1 := Ex.load1 Try.underlying51 rfl (by simp [World.cell?, hbW1])
  have hn0 : (Instr.loadAt 25 (.pointer (some ⟨xb, 1, none⟩))).run Try.prog W0 = .ok (.int .u64 ((last : Int) + 1)) W0 := Ex.load1 Try.underlying25 rfl (by simp [World.cell?, hbW0])
  have hbd : (Instr.build 66 #[(0, .int .u64 ((last : Int) + 1))]).run Try.prog W0 = .ok (.agg R.cells.toArray) W0 := by rw [hR]; exact run_build W0 66 _ _ (by kernel_rfl)
  have hbs : (Instr.buildSlice 51 1 #[(0, .agg R.cells.toArray)]).run Try.prog W0 = .ok (.slice (some ⟨hs, 0, none⟩) 1 1) W1 := by rw [hW1, hhs]; exact bs51 R none 0 0 (by rw [hR]) W0
  have hcf : W3.cell? ⟨xb, 1, none⟩ = some (.int .u64 ((last : Int) + 1)) := by simp [World.cell?, hbW3]
  have HR : Hid (R = ⟨last + 1, .slice none 0 0, [], 0⟩) := hR
  have HW0 : Hid (W0 = w1.drew) := hW0
  have hw1' : w.setCell ⟨xb, 1, none⟩ (.int .u64 ((last : Int) + 1)) = w1 := hw1.symm
  have hn8 : ¬ (8 ≤ (n : Int)) := by omega
  clear hw1 c1 hb1 hR hW0 hhs hW1 cW0 cW1 hbW0 hbW1 hob hslW1 hi hz hsz hby hsl2 cA hown hn2 hW3 hbW2 hbW3 c3 hcAll hnew h hxb hnn
  go_enter Try.func16, Try.ntmps16
  go_wp2_with fail
  refine Go.Drawn.wp_region_chain [[], [], [1], [1, 2], [1, 2, 3], [], [5], [5, 6], [5, 6, 7], [5, 6, 7, 8], [5, 6, 7, 8, 9], [1, 2, 3, 4, 5, 6, 7, 8, 9, 10], [0, 1, 2, 3, 4, 5, 6, 7, 8, 9, 10, 11], [0, 1, 2, 3, 4, 5, 6, 7, 8, 9, 10, 11, 12], [0, 1, 2, 3, 4, 5, 6, 7, 8, 9, 10, 11, 12, 13]] [.pointer (some ⟨xb, 0, none⟩), .pointer (some ⟨xb, 0, none⟩), .pointer (some ⟨xb, 0, none⟩), .pointer (some ⟨xb, 0, none⟩), .slice a n c, .pointer (some ⟨xb, 0, none⟩), .pointer (some ⟨xb, 0, none⟩), .pointer (some ⟨xb, 1, none⟩), .int .u64 ((last : Int) + 1), .agg R.cells.toArray, .slice (some ⟨hs, 0, none⟩) 1 1, .slice a2 n2 c2, .pointer (some ⟨xb, 0, none⟩), .pointer (some ⟨xb, 0, none⟩), undef] (fun k => ([W0, W1, W2, W3] : List World).getD k (W0)) [10, 11, 14] [[0, 1, 2], [0, 1], [0, 1], [0, 1], [0, 1], [0], [0], [0], [0], [0], [0], [1], [2], [2], [2]] (by kernel_rfl) (by kernel_rfl) (by kernel_rfl) (by kernel_rfl) (by kernel_rfl) (by kernel_rfl) ?_ ?_ ?_
  · exact HW0.out
  · exact ⟨⟨(.val (by kernel_rfl) (by kernel_rfl)), (.val (by kernel_rfl) (by kernel_rfl)), (.val (by kernel_rfl) (by kernel_rfl)), trivial⟩,
      ⟨(.val (by kernel_rfl) (by kernel_rfl)), (.val (by kernel_rfl) (by kernel_rfl)), trivial⟩,
      ⟨(.val (by kernel_rfl) (by kernel_rfl)), (.val (by kernel_rfl) (by kernel_rfl)), trivial⟩,
      ⟨(.val (by kernel_rfl) (by kernel_rfl)), (.val (by kernel_rfl) (by kernel_rfl)), trivial⟩,
      ⟨(.val (by kernel_rfl) (Ex.load rfl hl0)), (.val (by kernel_rfl) (Ex.load rfl hl1)), trivial⟩,
      ⟨(.val (by kernel_rfl) (by kernel_rfl)), trivial⟩,
      ⟨(.val (by kernel_rfl) (by kernel_rfl)), trivial⟩,
      ⟨(.val (by kernel_rfl) (by kernel_rfl)), trivial⟩,
      ⟨(.val (by kernel_rfl) (Ex.load rfl hn0)), trivial⟩,
      ⟨(.val (by kernel_rfl) (Ex.build1 rfl hbd)), trivial⟩,
      ⟨(.val (by kernel_rfl) (Ex.buildSlice1 rfl hbs)), trivial⟩,
      ⟨(.val (by kernel_rfl) (Ex.append (t := 51) rfl hap)), trivial⟩,
      ⟨(.val (by kernel_rfl) (by kernel_rfl)), trivial⟩,
      ⟨(.val (by kernel_rfl) (by kernel_rfl)), trivial⟩,
      ⟨(.skip (by kernel_rfl) (Ex.store rfl hst) rfl), trivial⟩,
      trivial⟩
  simp only [Go.Drawn.putAll, Act.put, List.getD_cons_zero, List.getD_cons_succ, List.setIfInBounds_toArray, List.set_cons_zero, List.set_cons_succ, List.length_cons, List.length_nil, Nat.reduceAdd]
  clear hl0 hl1 hn0 hbd hbs hap hst hw1' hc0 hc1 hf1
  go_wp2
  go_ret2
  exact ⟨rfl, _, by rw [← HR.out]; exact HF.out, HC.out, HNEW.out⟩

set_option maxRecDepth 100000 in
set_option maxHeartbeats 1000000 in
theorem rwatch_full (xb last : Nat) (sv : Value) (rows : List RRow) (w : World) (h : RefRows w xb last sv rows) (hn : 8 ≤ rows.length) :
    Calls Try.prog 16 #[.pointer (some ⟨xb, 0, none⟩)] w fun e w' => e = .returned (.tuple #[.int .u64 0, .int .i64 5]) ∧ w' = w := by
  obtain ⟨a, c, hsv, _⟩ := Sl.shape2 h.sl
  rw [List.length_map] at hsv
  subst hsv
  have hc0 : w.cell? ⟨xb, 0, none⟩ = some (.slice a rows.length c) := by simp [World.cell?, h.cell]
  have hn8 : 8 ≤ (rows.length : Int) := by omega
  clear h
  go_enter Try.func16, Try.ntmps16
  go_wp2_with fail
  go_ret2
  exact ⟨rfl, rfl⟩

theorem rwatch_is {w : World} {p : Value} {F : Nat × List AR} {S : Nat → Prop} (h : IsRef w p F S) (hn : F.2.length < 8) (hl : F.1 + 1 < 1000000) :
    Calls Try.prog 16 #[p] w fun e w' => e = .returned (.tuple #[.int .u64 ((F.1 : Int) + 1), .int .i64 0]) ∧ ∃ S', IsRef w' p (F.1 + 1, F.2 ++ [(F.1 + 1, [], 0)]) S' ∧ (∀ k, S' k → S k ∨ w.heap.size ≤ k) ∧ Chg S w w' := by
  obtain ⟨xb, sv, rows, rfl, hf, hF, hS⟩ := h
  have hlen : rows.length = F.2.length := by rw [← hF, List.length_map]
  refine (rwatch_walk xb F.1 sv rows w hf (by omega) hl).mono ?_
  rintro e w' ⟨rfl, sv', h1, h2, h3⟩
  refine ⟨rfl, _, ⟨xb, sv', _, rfl, h1, by rw [List.map_append, hF]; rfl, fun _ => Iff.rfl⟩, fun k hk => ?_, h2.mono fun k _ h => (hS k).2 h⟩
  rcases hk with hk | hk | ⟨s, hs, hk⟩
  · exact .inl ((hS k).2 (.inl hk))
  · exact (h3 k hk).imp (fun h => (hS k).2 (.inr (.inl h))) id
  · rcases List.mem_append.1 hs with hs | hs
    · exact .inl ((hS k).2 (.inr (.inr ⟨s, hs, hk⟩)))
    · obtain rfl := List.mem_singleton.1 hs
      simp [Value.ownBlock] at hk
theorem rwatch_no {w : World} {p : Value} {F : Nat × List AR} {S : Nat → Prop} (h : IsRef w p F S) (hn : 8 ≤ F.2.length) :
    Calls Try.prog 16 #[p] w fun e w' => e = .returned (.tuple #[.int .u64 0, .int .i64 5]) ∧ w' = w := by
  obtain ⟨xb, sv, rows, rfl, hf, hF, hS⟩ := h
  exact rwatch_full xb F.1 sv rows w hf (by rw [← List.length_map (f := absRR), hF]; exact hn)

/-! ### Waits -/
set_option maxRecDepth 100000 in
set_option maxHeartbeats 2000000 in
theorem rwaits_walk (xb last : Nat) (sv : Value) (A B : List RRow) (r : RRow) (w : World) (h : RefRows w xb last sv (A ++ r :: B)) :
    Calls Try.prog 25 #[.pointer (some ⟨xb, 0, none⟩), .int .u64 r.id] w fun e w' => e = .returned (.int .i64 (waitsI (r.items, r.lost))) ∧ w' = w := by
  obtain ⟨a, c, hsv, _⟩ := Sl.shape2 h.sl
  have hfind := find_in h
  subst hsv
  obtain ⟨n, hn⟩ : ∃ n, n = ((A ++ r :: B).map RRow.cells).length := ⟨_, rfl⟩
  rw [← hn] at h
  obtain ⟨g, o, rfl⟩ := row_some h.sl
  obtain ⟨k0, k1, k2⟩ := row_cells h.sl
  have hc0 : w.cell? ⟨xb, 0, none⟩ = some (.slice (some ⟨g, o, none⟩) n c) := by simp [World.cell?, h.cell]
  obtain ⟨ra, rc, hrv⟩ := (h.row r (by simp)).shape
  rw [List.length_map] at hrv
  rw [hrv] at k1
  obtain ⟨j, hj⟩ : ∃ j, j = A.length := ⟨_, rfl⟩
  have hjn : j < n := by rw [hn, hj]; simp
  have h16 := h.few r (by simp)
  rw [← hj] at k0 k1 k2 hfind
  clear h hn hj hrv
  by_cases hl : 0 < r.lost
  · have HW : Hid (waitsI (r.items, r.lost) = (r.items.length : Int) + 1) := by unfold Hid waitsI; rw [if_pos hl]
    go_enter Try.func25, Try.ntmps25
    go_wp2_with fail
    refine hfind.mono ?_
    rintro e w9 ⟨rfl, hw9⟩
    rw [hw9]
    clear hw9 w9 hfind
    go_wp2_with fail
    go_ret
    exact ⟨by rw [HW.out]; rfl, rfl⟩
  · have HW : Hid (waitsI (r.items, r.lost) = (r.items.length : Int)) := by unfold Hid waitsI; rw [if_neg hl]
    go_enter Try.func25, Try.ntmps25
    go_wp2_with fail
    refine hfind.mono ?_
    rintro e w9 ⟨rfl, hw9⟩
    rw [hw9]
    clear hw9 w9 hfind
    go_wp2_with fail
    go_ret
    exact ⟨by rw [HW.out]; rfl, rfl⟩
set_option maxRecDepth 100000 in
set_option maxHeartbeats 2000000 in
theorem rwaits_out (xb last : Nat) (sv : Value) (rows : List RRow) (x : Nat) (w : World) (h : RefRows w xb last sv rows) (hx : ∀ r ∈ rows, r.id ≠ x) :
    Calls Try.prog 25 #[.pointer (some ⟨xb, 0, none⟩), .int .u64 x] w fun e w' => e = .returned (.int .i64 0) ∧ w' = w := by
  have hfind := find_out h hx
  clear h hx
  go_enter Try.func25, Try.ntmps25
  go_wp2_with fail
  refine hfind.mono ?_
  rintro e w9 ⟨rfl, hw9⟩
  rw [hw9]
  clear hw9 w9 hfind
  go_wp2_with fail
  go_ret
  exact ⟨rfl, rfl⟩
theorem rrow_split {rows : List RRow} {r : RRow} (h : r ∈ rows) : ∃ A B, rows = A ++ r :: B := List.append_of_mem h
theorem rwaits_is {w : World} {p : Value} {F : Nat × List AR} {S : Nat → Prop} (h : IsRef w p F S) (a : AR) (ha : a ∈ F.2) :
    Calls Try.prog 25 #[p, .int .u64 a.1] w fun e w' => e = .returned (.int .i64 (waitsI a.2)) ∧ w' = w := by
  obtain ⟨xb, sv, rows, rfl, hf, hF, hS⟩ := h
  rw [← hF] at ha
  obtain ⟨r, hr, rfl⟩ := List.mem_map.1 ha
  obtain ⟨A, B, rfl⟩ := rrow_split hr
  exact rwaits_walk xb F.1 sv A B r w hf
theorem rwaits_no {w : World} {p : Value} {F : Nat × List AR} {S : Nat → Prop} (h : IsRef w p F S) (x : Nat) (hn : ∀ a ∈ F.2, a.1 ≠ x) :
    Calls Try.prog 25 #[p, .int .u64 x] w fun e w' => e = .returned (.int .i64 0) ∧ w' = w := by
  obtain ⟨xb, sv, rows, rfl, hf, hF, hS⟩ := h
  exact rwaits_out xb F.1 sv rows x w hf fun r hr => hn _ (by rw [← hF]; exact List.mem_map.2 ⟨r, hr, rfl⟩)
end Go.Proofs.Ytdljloohgidbfaa
