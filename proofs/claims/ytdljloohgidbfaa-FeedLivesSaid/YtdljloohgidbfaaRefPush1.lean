/-
  The document's push: an event to a watcher.
-/
import Derived.Test.YtdljloohgidbfaaRefAt
import Derived.Laws.Rows
namespace Go.Proofs.Ytdljloohgidbfaa
open Go Go.RowKit Go.Mem

theorem store66 {w : World} {g : Nat} {cur : Array Value} (hg : w.heap[g]? = some (.cells cur 66 (0, 0))) (hc : cur.size = 3) (y : Array Value) (hy : y.size = 3) (h1 : ∀ u ∈ y.toList, u.oneCell' = true) :
    ∃ w', (Instr.storeAt 66 (.pointer (some ⟨g, 0, none⟩)) (.agg y)).run Try.prog w = .ok () w' ∧ w'.heap[g]? = some (.cells y 66) ∧ Chg (fun k => k = g) w w' := by
  have h := run_store_row (P := Try.prog) w g 0 66 66 cur y.toList hg (by simp; omega) (by rw [show y.toList.length = 3 from hy]; kernel_rfl) h1
  refine ⟨_, h, ?_, ⟨rfl, rfl, rfl, by simp, fun k _ hk => setRow_other w g k _ hk⟩⟩
  rw [setRow_heap w g cur _ 66 _ hg]
  have : (cur.toList.take 0 ++ y.toList ++ cur.toList.drop (0 + y.toList.length)).toArray = y := by
    rw [List.drop_of_length_le (by simp; omega)]
    simp
  rw [this]
theorem bs58 (x : It) (w : World) : (Instr.buildSlice 58 1 #[(0, .agg x.cells.toArray)]).run Try.prog w = .ok (.slice (some ⟨w.heap.size, 0, none⟩) 1 1) (w.alloc (.cells x.cells.toArray 80)) := by
  obtain ⟨ie, hi, hz, hs, _⟩ := info80
  refine run_buildSlice w 58 80 1 _ _ ie _ Try.underlying58 hi hz (by rw [hs]; decide) (by rw [hs]; decide) ?_
  rw [hs]
  kernel_rfl
theorem bs58b (x y : It) (w : World) : (Instr.buildSlice 58 2 #[(0, .agg x.cells.toArray), (1, .agg y.cells.toArray)]).run Try.prog w = .ok (.slice (some ⟨w.heap.size, 0, none⟩) 2 2) (w.alloc (.cells (x.cells ++ y.cells).toArray 80)) := by
  obtain ⟨ie, hi, hz, hs, _⟩ := info80
  refine run_buildSlice w 58 80 2 _ _ ie _ Try.underlying58 hi hz (by rw [hs]; decide) (by rw [hs]; decide) ?_
  rw [hs]
  kernel_rfl
theorem build80e (e : Ev) (w : World) : (Instr.build 80 #[(0, .agg e.cells.toArray)]).run Try.prog w = .ok (.agg e.it.cells.toArray) w := run_build w 80 _ _ (by kernel_rfl)
theorem build80g (l : Int) (w : World) : (Instr.build 80 #[(1, .int .u64 l)]).run Try.prog w = .ok (.agg (gap l).cells.toArray) w := run_build w 80 _ _ (by kernel_rfl)
theorem one_it (x : It) : ∀ u ∈ x.cells, u.oneCell' = true := fun u hu => (List.all_eq_true.1 (show (x.cells.all (·.oneCell')) = true from rfl)) u hu
/-- more of them, out of a block just made -/
theorem rmore {w : World} {sv : Value} {items : List It} (h : Sl w 80 35 sv (items.map It.cells)) (is : List It) (hn : items.length + is.length < 1000) (hp : 0 < is.length) (n : Nat) (hl : n = is.length) :
    ∃ v' w', (Builtin.append_ #[58, 58] 58 #[sv, .slice (some ⟨w.heap.size, 0, none⟩) n n]).run Try.prog (w.alloc (.cells (is.map It.cells).flatten.toArray 80)) = .ok v' w' ∧
      Sl w' 80 35 v' ((items ++ is).map It.cells) ∧ Chg (fun k => sv.ownBlock = some k) w w' ∧ (∀ k, v'.ownBlock = some k → sv.ownBlock = some k ∨ w.heap.size ≤ k) := by
  obtain ⟨ie, hi, hz, hs, hb⟩ := info80
  have hsl : Sl (w.alloc (.cells (is.map It.cells).flatten.toArray 80)) 80 35 sv (items.map It.cells) := h.chg ((Chg.refl (fun _ => False) w).alloc _) (fun _ _ h => h)
  subst hl
  obtain ⟨v', w', hr, h1, h2, h3, _⟩ := Sl.append (P := Try.prog) 58 58 Try.underlying58 hi hz hs hb rfl hsl ⟨w.heap.size, 0, none⟩ is.length (is.map It.cells) (fun y hy => by obtain ⟨i, _, rfl⟩ := List.mem_map.1 hy; rfl)
      (fun j u hj => by
        rw [Addr.add_mid, Nat.zero_add]
        simp only [World.cell?, heap_alloc_new]
        simpa using hj)
      (fun y hy => by obtain ⟨i, _, rfl⟩ := List.mem_map.1 hy; exact one_it i)
      (by simpa using hp) (by simp only [List.length_map]; unfold maxLen; omega) (by simp only [List.length_map]; omega)
  rw [List.length_map] at hr
  refine ⟨v', w', hr, by rw [List.map_append]; exact h1, ((Chg.refl (fun k => sv.ownBlock = some k) w).alloc _).trans (h2.mono fun k _ h => .inl h), fun k hk => ?_⟩
  rcases h3 with h3 | h3
  · exact .inl (by rw [← h3]; exact hk)
  · rw [h3] at hk; cases hk
    exact .inr (by simp)

/-- what the push leaves -/
def RPushed (w : World) (id : Nat) (sv : Value) (lost : Nat) (e : Ev) (p : List It × Nat) : Prop :=
  ∃ sv' w', Sl w' 80 35 sv' (p.1.map It.cells) ∧ Chg (fun k => sv.ownBlock = some k) w w' ∧ (∀ k, sv'.ownBlock = some k → sv.ownBlock = some k ∨ w.heap.size ≤ k) ∧
    Calls Try.prog 30 #[.agg #[.int .u64 id, sv, .int .u64 lost], .agg e.cells.toArray] w fun x w2 => x = .returned (.agg #[.int .u64 id, sv', .int .u64 p.2]) ∧ w2 = w'

set_option maxRecDepth 100000 in
set_option maxHeartbeats 4000000 in
theorem rpush_full (id : Nat) (sa : Option Addr) (n sc : Nat) (items : List It) (lost : Nat) (e : Ev) (w : World) (hsl : Sl w 80 35 (.slice sa n sc) (items.map It.cells)) (hlen : n = items.length) (h1 : 16 ≤ n) (h3 : ¬ 0 < lost) :
    RPushed w id (.slice sa n sc) lost e (items, lost + 1) := by
  obtain ⟨b0, hb0⟩ : ∃ b0, b0 = w.heap.size := ⟨_, rfl⟩
  obtain ⟨E, hE⟩ : ∃ E, E = e.cells.toArray := ⟨_, rfl⟩
  obtain ⟨W1, hW1⟩ : ∃ W1, W1 = w.alloc (.cells #[.int .u64 id, .slice sa n sc, .int .u64 lost] 66) := ⟨_, rfl⟩
  obtain ⟨W2, hW2⟩ : ∃ W2, W2 = W1.alloc (.cells E 78) := ⟨_, rfl⟩
  obtain ⟨W3, hW3⟩ : ∃ W3, W3 = W2.alloc (.cells #[.int .u64 0, .slice none 0 0, .int .u64 0] 66) := ⟨_, rfl⟩
  have hs1 : W1.heap.size = b0 + 1 := by rw [hW1, hb0]; simp
  have hs2 : W2.heap.size = b0 + 2 := by rw [hW2]; simp; omega
  have hs3 : W3.heap.size = b0 + 3 := by rw [hW3]; simp; omega
  have hx0 : (Instr.box 66 (.agg #[.int .u64 id, .slice sa n sc, .int .u64 lost])).run Try.prog w = .ok (.pointer (some ⟨b0, 0, none⟩)) W1 := by rw [hW1, hb0]; rfl
  have hx1 : (Instr.box 78 (.agg E)).run Try.prog W1 = .ok (.pointer (some ⟨b0 + 1, 0, none⟩)) W2 := by rw [hW2, ← hs1]; rfl
  have hx2 : (Instr.alloc 66 true (.tuple #[])).run Try.prog W2 = .ok (.pointer (some ⟨b0 + 2, 0, none⟩)) W3 := by rw [hW3, ← hs2]; kernel_rfl
  have hq0 : W3.heap[b0]? = some (.cells #[.int .u64 id, .slice sa n sc, .int .u64 lost] 66) := by
    rw [hW3, Below.heap_alloc _ _ _ (by omega), hW2, Below.heap_alloc _ _ _ (by omega), hW1, hb0]; exact heap_alloc_new _ _
  have hq1 : W3.heap[b0 + 1]? = some (.cells E 78) := by
    rw [hW3, Below.heap_alloc _ _ _ (by omega), hW2, ← hs1]; exact heap_alloc_new _ _
  have hq2 : W3.heap[b0 + 2]? = some (.cells #[.int .u64 0, .slice none 0 0, .int .u64 0] 66) := by
    rw [hW3, ← hs2]; exact heap_alloc_new _ _
  have c3 : Chg (fun _ => False) w W3 := by rw [hW3, hW2, hW1]; exact (((Chg.refl _ w).alloc _).alloc _).alloc _
  have hsl3 : Sl W3 80 35 (.slice sa n sc) (items.map It.cells) := hsl.chg c3 fun _ _ h => h
  have hlt : ∀ k, (Value.slice sa n sc).ownBlock = some k → k < b0 := fun k hk => by rw [hb0]; exact hsl.lt hk
  have hd0 : W3.cell? ⟨b0, 0, none⟩ = some (.int .u64 id) := by simp [World.cell?, hq0]
  have hd1 : W3.cell? ⟨b0, 1, none⟩ = some (.slice sa n sc) := by simp [World.cell?, hq0]
  have hd2 : W3.cell? ⟨b0, 2, none⟩ = some (.int .u64 lost) := by simp [World.cell?, hq0]
  have hf1 : W3.frozen? ⟨b0, 1, none⟩ = false := by simp [World.frozen?, hq0]
  have hf2 : W3.frozen? ⟨b0, 2, none⟩ = false := by simp [World.frozen?, hq0]
  have hle : (Instr.loadAt 78 (.pointer (some ⟨b0 + 1, 0, none⟩))).run Try.prog W3 = .ok (.agg E) W3 := by
    refine run_loadAt_mid W3 (b0 + 1) 0 78 E.toList _ ?_ Try.underlying78 rfl (by rw [hE]; kernel_rfl)
    intro j v hv
    simp only [World.cell?, hq1, Nat.zero_add]
    simpa using hv
  have hde2 : 16 ≤ (n : Int) := by omega
  obtain ⟨WA, hWA⟩ : ∃ WA, WA = W3.setCell ⟨b0, 2, none⟩ (.int .u64 ((lost : Int) + 1)) := ⟨_, rfl⟩
  have ha0 : WA.heap[b0]? = some (.cells #[.int .u64 id, .slice sa n sc, .int .u64 ((lost : Int) + 1)] 66) := by
    rw [hWA]
    simp only [World.setCell, Array.getElem?_modify, hq0]
    simp
  have ha2 : WA.heap[b0 + 2]? = some (.cells #[.int .u64 0, .slice none 0 0, .int .u64 0] 66) := by
    rw [hWA, Below.heap_setCell _ _ _ _ (by show ¬ b0 + 2 = b0; omega)]; exact hq2
  have cA : Chg (fun k => k = b0) W3 WA := by rw [hWA]; exact (Chg.refl (fun k => k = b0) W3).setCell (.inl rfl) _
  have hsA : (Instr.storeAt 25 (.pointer (some ⟨b0, 2, none⟩)) (.int .u64 ((lost : Int) + 1))).run Try.prog W3 = .ok () WA := by rw [hWA]; exact Ex.store1 (by kernel_rfl) rfl rfl hd2 hf2
  obtain ⟨R, hR⟩ : ∃ R : Array Value, R = #[.int .u64 id, .slice sa n sc, .int .u64 ((lost : Int) + 1)] := ⟨_, rfl⟩
  have hlR : (Instr.loadAt 66 (.pointer (some ⟨b0, 0, none⟩))).run Try.prog WA = .ok (.agg R) WA := by
    refine run_loadAt_mid WA b0 0 66 R.toList _ ?_ Try.underlying66 rfl (by rw [hR]; kernel_rfl)
    intro j v hv
    simp only [World.cell?, ha0, Nat.zero_add]
    rw [hR] at hv
    simpa using hv
  obtain ⟨WB, hst, hr2, hcB⟩ := store66 ha2 (by rfl) R (by rw [hR]; rfl) (by rw [hR]; intro u hu; simp at hu; rcases hu with rfl | rfl | rfl <;> rfl)
  refine ⟨.slice sa n sc, WB, ?_, ?_, fun k hk => .inl hk, ?_⟩
  · exact (hsl3.chg cA fun k hk e => by have := hlt k hk; omega).chg hcB fun k hk e => by have := hlt k hk; omega
  · exact ((c3.mono (T := fun k => (Value.slice sa n sc).ownBlock = some k) fun _ _ h => h.elim).trans (cA.mono fun k _ h => .inr (by omega))).trans (hcB.mono fun k _ h => .inr (by omega))
  rw [← hE]
  have HB2 : Hid (WB.heap[b0 + 2]? = some (.cells R 66)) := hr2
  have HR : Hid (R = _) := hR
  clear hq0 hq1 hq2 c3 hsl3 hsl hlt hs1 hs2 hs3 hW1 hW2 hW3 hb0 hE hr2 hR hlen hWA ha0 ha2 cA hcB
  go_enter Try.func30, Try.ntmps30
  go_wp2_with (first
      | ((with_reducible refine Step.wpList_op (.store 25 (.tmp 46) (.tmp 45)) rfl ?_); refine Step.wpList_skip1 rfl WA (Ex.store rfl hsA) ?_)
      | ((with_reducible refine Step.wpList_op (.box 66 (.tmp 0)) rfl ?_); refine Step.wpList_run rfl _ W1 (Ex.box rfl hx0) ?_)
      | ((with_reducible refine Step.wpList_op (.box 78 (.tmp 1)) rfl ?_); refine Step.wpList_run rfl _ W2 (Ex.box rfl hx1) ?_)
      | ((with_reducible refine Step.wpList_op (.alloc 66) rfl ?_); refine Step.wpList_run rfl _ W3 (Ex.alloc rfl hx2) ?_)
      | ((with_reducible refine Step.wpList_op (.load 66 (.tmp 2)) rfl ?_); refine Step.wpList_run rfl _ WA (Ex.load rfl hlR) ?_)
      | ((with_reducible refine Step.wpList_op (.store 66 (.tmp 4) (.tmp 47)) rfl ?_); refine Step.wpList_skip1 rfl WB (Ex.store rfl hst) ?_))
  (try simp only [Exit.inBlock, Exit.then])
  refine bodyPost_ret (v := .agg R) ?_ rfl ?_
  · exact results_cell_row rfl _ WB (b0 + 2) 66 R (0, 0) _ rfl HB2.out Try.underlying66 rfl (by rw [HR.out]; kernel_rfl)
  exact ⟨congrArg (fun r => Ending.returned (.agg r)) HR.out, rfl⟩

set_option maxRecDepth 100000 in
set_option maxHeartbeats 4000000 in
theorem rpush_lost (id : Nat) (sa : Option Addr) (n sc : Nat) (items : List It) (lost : Nat) (e : Ev) (w : World) (hsl : Sl w 80 35 (.slice sa n sc) (items.map It.cells)) (hlen : n = items.length) (h1 : 15 ≤ n) (h3 : 0 < lost) (h4 : lost < 1000000) :
    RPushed w id (.slice sa n sc) lost e (items, lost + 1) := by
  obtain ⟨b0, hb0⟩ : ∃ b0, b0 = w.heap.size := ⟨_, rfl⟩
  obtain ⟨E, hE⟩ : ∃ E, E = e.cells.toArray := ⟨_, rfl⟩
  obtain ⟨W1, hW1⟩ : ∃ W1, W1 = w.alloc (.cells #[.int .u64 id, .slice sa n sc, .int .u64 lost] 66) := ⟨_, rfl⟩
  obtain ⟨W2, hW2⟩ : ∃ W2, W2 = W1.alloc (.cells E 78) := ⟨_, rfl⟩
  obtain ⟨W3, hW3⟩ : ∃ W3, W3 = W2.alloc (.cells #[.int .u64 0, .slice none 0 0, .int .u64 0] 66) := ⟨_, rfl⟩
  have hs1 : W1.heap.size = b0 + 1 := by rw [hW1, hb0]; simp
  have hs2 : W2.heap.size = b0 + 2 := by rw [hW2]; simp; omega
  have hs3 : W3.heap.size = b0 + 3 := by rw [hW3]; simp; omega
  have hx0 : (Instr.box 66 (.agg #[.int .u64 id, .slice sa n sc, .int .u64 lost])).run Try.prog w = .ok (.pointer (some ⟨b0, 0, none⟩)) W1 := by rw [hW1, hb0]; rfl
  have hx1 : (Instr.box 78 (.agg E)).run Try.prog W1 = .ok (.pointer (some ⟨b0 + 1, 0, none⟩)) W2 := by rw [hW2, ← hs1]; rfl
  have hx2 : (Instr.alloc 66 true (.tuple #[])).run Try.prog W2 = .ok (.pointer (some ⟨b0 + 2, 0, none⟩)) W3 := by rw [hW3, ← hs2]; kernel_rfl
  have hq0 : W3.heap[b0]? = some (.cells #[.int .u64 id, .slice sa n sc, .int .u64 lost] 66) := by
    rw [hW3, Below.heap_alloc _ _ _ (by omega), hW2, Below.heap_alloc _ _ _ (by omega), hW1, hb0]; exact heap_alloc_new _ _
  have hq1 : W3.heap[b0 + 1]? = some (.cells E 78) := by
    rw [hW3, Below.heap_alloc _ _ _ (by omega), hW2, ← hs1]; exact heap_alloc_new _ _
  have hq2 : W3.heap[b0 + 2]? = some (.cells #[.int .u64 0, .slice none 0 0, .int .u64 0] 66) := by
    rw [hW3, ← hs2]; exact heap_alloc_new _ _
  have c3 : Chg (fun _ => False) w W3 := by rw [hW3, hW2, hW1]; exact (((Chg.refl _ w).alloc _).alloc _).alloc _
  have hsl3 : Sl W3 80 35 (.slice sa n sc) (items.map It.cells) := hsl.chg c3 fun _ _ h => h
  have hlt : ∀ k, (Value.slice sa n sc).ownBlock = some k → k < b0 := fun k hk => by rw [hb0]; exact hsl.lt hk
  have hd0 : W3.cell? ⟨b0, 0, none⟩ = some (.int .u64 id) := by simp [World.cell?, hq0]
  have hd1 : W3.cell? ⟨b0, 1, none⟩ = some (.slice sa n sc) := by simp [World.cell?, hq0]
  have hd2 : W3.cell? ⟨b0, 2, none⟩ = some (.int .u64 lost) := by simp [World.cell?, hq0]
  have hf1 : W3.frozen? ⟨b0, 1, none⟩ = false := by simp [World.frozen?, hq0]
  have hf2 : W3.frozen? ⟨b0, 2, none⟩ = false := by simp [World.frozen?, hq0]
  have hle : (Instr.loadAt 78 (.pointer (some ⟨b0 + 1, 0, none⟩))).run Try.prog W3 = .ok (.agg E) W3 := by
    refine run_loadAt_mid W3 (b0 + 1) 0 78 E.toList _ ?_ Try.underlying78 rfl (by rw [hE]; kernel_rfl)
    intro j v hv
    simp only [World.cell?, hq1, Nat.zero_add]
    simpa using hv
  have hde2 : ¬ ((n : Int) ≤ 14) := by omega
  obtain ⟨WA, hWA⟩ : ∃ WA, WA = W3.setCell ⟨b0, 2, none⟩ (.int .u64 ((lost : Int) + 1)) := ⟨_, rfl⟩
  have ha0 : WA.heap[b0]? = some (.cells #[.int .u64 id, .slice sa n sc, .int .u64 ((lost : Int) + 1)] 66) := by
    rw [hWA]
    simp only [World.setCell, Array.getElem?_modify, hq0]
    simp
  have ha2 : WA.heap[b0 + 2]? = some (.cells #[.int .u64 0, .slice none 0 0, .int .u64 0] 66) := by
    rw [hWA, Below.heap_setCell _ _ _ _ (by show ¬ b0 + 2 = b0; omega)]; exact hq2
  have cA : Chg (fun k => k = b0) W3 WA := by rw [hWA]; exact (Chg.refl (fun k => k = b0) W3).setCell (.inl rfl) _
  have hsA : (Instr.storeAt 25 (.pointer (some ⟨b0, 2, none⟩)) (.int .u64 ((lost : Int) + 1))).run Try.prog W3 = .ok () WA := by rw [hWA]; exact Ex.store1 (by kernel_rfl) rfl rfl hd2 hf2
  obtain ⟨R, hR⟩ : ∃ R : Array Value, R = #[.int .u64 id, .slice sa n sc, .int .u64 ((lost : Int) + 1)] := ⟨_, rfl⟩
  have hlR : (Instr.loadAt 66 (.pointer (some ⟨b0, 0, none⟩))).run Try.prog WA = .ok (.agg R) WA := by
    refine run_loadAt_mid WA b0 0 66 R.toList _ ?_ Try.underlying66 rfl (by rw [hR]; kernel_rfl)
    intro j v hv
    simp only [World.cell?, ha0, Nat.zero_add]
    rw [hR] at hv
    simpa using hv
  obtain ⟨WB, hst, hr2, hcB⟩ := store66 ha2 (by rfl) R (by rw [hR]; rfl) (by rw [hR]; intro u hu; simp at hu; rcases hu with rfl | rfl | rfl <;> rfl)
  refine ⟨.slice sa n sc, WB, ?_, ?_, fun k hk => .inl hk, ?_⟩
  · exact (hsl3.chg cA fun k hk e => by have := hlt k hk; omega).chg hcB fun k hk e => by have := hlt k hk; omega
  · exact ((c3.mono (T := fun k => (Value.slice sa n sc).ownBlock = some k) fun _ _ h => h.elim).trans (cA.mono fun k _ h => .inr (by omega))).trans (hcB.mono fun k _ h => .inr (by omega))
  rw [← hE]
  have HB2 : Hid (WB.heap[b0 + 2]? = some (.cells R 66)) := hr2
  have HR : Hid (R = _) := hR
  clear hq0 hq1 hq2 c3 hsl3 hsl hlt hs1 hs2 hs3 hW1 hW2 hW3 hb0 hE hr2 hR hlen hWA ha0 ha2 cA hcB
  go_enter Try.func30, Try.ntmps30
  go_wp2_with (first
      | ((with_reducible refine Step.wpList_op (.store 25 (.tmp 46) (.tmp 45)) rfl ?_); refine Step.wpList_skip1 rfl WA (Ex.store rfl hsA) ?_)
      | ((with_reducible refine Step.wpList_op (.box 66 (.tmp 0)) rfl ?_); refine Step.wpList_run rfl _ W1 (Ex.box rfl hx0) ?_)
      | ((with_reducible refine Step.wpList_op (.box 78 (.tmp 1)) rfl ?_); refine Step.wpList_run rfl _ W2 (Ex.box rfl hx1) ?_)
      | ((with_reducible refine Step.wpList_op (.alloc 66) rfl ?_); refine Step.wpList_run rfl _ W3 (Ex.alloc rfl hx2) ?_)
      | ((with_reducible refine Step.wpList_op (.load 66 (.tmp 2)) rfl ?_); refine Step.wpList_run rfl _ WA (Ex.load rfl hlR) ?_)
      | ((with_reducible refine Step.wpList_op (.store 66 (.tmp 4) (.tmp 47)) rfl ?_); refine Step.wpList_skip1 rfl WB (Ex.store rfl hst) ?_))
  (try simp only [Exit.inBlock, Exit.then])
  refine bodyPost_ret (v := .agg R) ?_ rfl ?_
  · exact results_cell_row rfl _ WB (b0 + 2) 66 R (0, 0) _ rfl HB2.out Try.underlying66 rfl (by rw [HR.out]; kernel_rfl)
  exact ⟨congrArg (fun r => Ending.returned (.agg r)) HR.out, rfl⟩

set_option maxRecDepth 100000 in
set_option maxHeartbeats 4000000 in
theorem rpush_room (id : Nat) (sa : Option Addr) (n sc : Nat) (items : List It) (lost : Nat) (e : Ev) (w : World) (hsl : Sl w 80 35 (.slice sa n sc) (items.map It.cells)) (hlen : n = items.length) (h1 : n ≤ 15) (h3 : ¬ 0 < lost) :
    RPushed w id (.slice sa n sc) lost e (items ++ [e.it], lost) := by
  obtain ⟨b0, hb0⟩ : ∃ b0, b0 = w.heap.size := ⟨_, rfl⟩
  obtain ⟨E, hE⟩ : ∃ E, E = e.cells.toArray := ⟨_, rfl⟩
  obtain ⟨W1, hW1⟩ : ∃ W1, W1 = w.alloc (.cells #[.int .u64 id, .slice sa n sc, .int .u64 lost] 66) := ⟨_, rfl⟩
  obtain ⟨W2, hW2⟩ : ∃ W2, W2 = W1.alloc (.cells E 78) := ⟨_, rfl⟩
  obtain ⟨W3, hW3⟩ : ∃ W3, W3 = W2.alloc (.cells #[.int .u64 0, .slice none 0 0, .int .u64 0] 66) := ⟨_, rfl⟩
  have hs1 : W1.heap.size = b0 + 1 := by rw [hW1, hb0]; simp
  have hs2 : W2.heap.size = b0 + 2 := by rw [hW2]; simp; omega
  have hs3 : W3.heap.size = b0 + 3 := by rw [hW3]; simp; omega
  have hx0 : (Instr.box 66 (.agg #[.int .u64 id, .slice sa n sc, .int .u64 lost])).run Try.prog w = .ok (.pointer (some ⟨b0, 0, none⟩)) W1 := by rw [hW1, hb0]; rfl
  have hx1 : (Instr.box 78 (.agg E)).run Try.prog W1 = .ok (.pointer (some ⟨b0 + 1, 0, none⟩)) W2 := by rw [hW2, ← hs1]; rfl
  have hx2 : (Instr.alloc 66 true (.tuple #[])).run Try.prog W2 = .ok (.pointer (some ⟨b0 + 2, 0, none⟩)) W3 := by rw [hW3, ← hs2]; kernel_rfl
  have hq0 : W3.heap[b0]? = some (.cells #[.int .u64 id, .slice sa n sc, .int .u64 lost] 66) := by
    rw [hW3, Below.heap_alloc _ _ _ (by omega), hW2, Below.heap_alloc _ _ _ (by omega), hW1, hb0]; exact heap_alloc_new _ _
  have hq1 : W3.heap[b0 + 1]? = some (.cells E 78) := by
    rw [hW3, Below.heap_alloc _ _ _ (by omega), hW2, ← hs1]; exact heap_alloc_new _ _
  have hq2 : W3.heap[b0 + 2]? = some (.cells #[.int .u64 0, .slice none 0 0, .int .u64 0] 66) := by
    rw [hW3, ← hs2]; exact heap_alloc_new _ _
  have c3 : Chg (fun _ => False) w W3 := by rw [hW3, hW2, hW1]; exact (((Chg.refl _ w).alloc _).alloc _).alloc _
  have hsl3 : Sl W3 80 35 (.slice sa n sc) (items.map It.cells) := hsl.chg c3 fun _ _ h => h
  have hlt : ∀ k, (Value.slice sa n sc).ownBlock = some k → k < b0 := fun k hk => by rw [hb0]; exact hsl.lt hk
  have hd0 : W3.cell? ⟨b0, 0, none⟩ = some (.int .u64 id) := by simp [World.cell?, hq0]
  have hd1 : W3.cell? ⟨b0, 1, none⟩ = some (.slice sa n sc) := by simp [World.cell?, hq0]
  have hd2 : W3.cell? ⟨b0, 2, none⟩ = some (.int .u64 lost) := by simp [World.cell?, hq0]
  have hf1 : W3.frozen? ⟨b0, 1, none⟩ = false := by simp [World.frozen?, hq0]
  have hf2 : W3.frozen? ⟨b0, 2, none⟩ = false := by simp [World.frozen?, hq0]
  have hle : (Instr.loadAt 78 (.pointer (some ⟨b0 + 1, 0, none⟩))).run Try.prog W3 = .ok (.agg E) W3 := by
    refine run_loadAt_mid W3 (b0 + 1) 0 78 E.toList _ ?_ Try.underlying78 rfl (by rw [hE]; kernel_rfl)
    intro j v hv
    simp only [World.cell?, hq1, Nat.zero_add]
    simpa using hv
  have hbe : (Instr.build 80 #[(0, .agg E)]).run Try.prog W3 = .ok (.agg e.it.cells.toArray) W3 := by rw [hE]; exact build80e e W3
  obtain ⟨W4, hW4⟩ : ∃ W4, W4 = W3.alloc (.cells (([e.it].map It.cells).flatten).toArray 80) := ⟨_, rfl⟩
  have hbs : (Instr.buildSlice 58 1 #[(0, .agg e.it.cells.toArray)]).run Try.prog W3 = .ok (.slice (some ⟨b0 + 3, 0, none⟩) 1 1) W4 := by
    have := bs58 e.it W3
    rw [hs3] at this
    rw [hW4]; simpa using this
  obtain ⟨v5, W5, hap, hsl5, cA5, how⟩ := rmore hsl3 [e.it] (by simp; omega) (by simp) 1 rfl
  rw [← hW4, hs3] at hap
  obtain ⟨a5, l5, hv5⟩ := hsl5.shape
  obtain ⟨m5, hm5⟩ : ∃ m5, m5 = (List.map It.cells (items ++ [e.it])).length := ⟨_, rfl⟩
  rw [← hm5] at hv5
  subst hv5
  have h50 : W5.heap[b0]? = some (.cells #[.int .u64 id, .slice sa n sc, .int .u64 lost] 66) := (cA5.block b0 (by omega) fun h => by have := hlt _ h; omega).trans hq0
  have h52 : W5.heap[b0 + 2]? = some (.cells #[.int .u64 0, .slice none 0 0, .int .u64 0] 66) := (cA5.block (b0 + 2) (by omega) fun h => by have := hlt _ h; omega).trans hq2
  have hnn : ∀ k, (Value.slice a5 m5 l5).ownBlock = some k → k < b0 ∨ b0 + 3 ≤ k := fun k hk => by
    rcases how k hk with h | h
    · exact .inl (hlt k h)
    · rw [hs3] at h; exact .inr h
  obtain ⟨WA, hWA⟩ : ∃ WA, WA = W5.setCell ⟨b0, 1, none⟩ (.slice a5 m5 l5) := ⟨_, rfl⟩
  have hsA : (Instr.storeAt 58 (.pointer (some ⟨b0, 1, none⟩)) (.slice a5 m5 l5)).run Try.prog W5 = .ok () WA := by
    rw [hWA]; exact Ex.store1 (by kernel_rfl) rfl rfl (u := .slice sa n sc) (by simp [World.cell?, h50]) (by simp [World.frozen?, h50])
  have c6 : Chg (fun k => k = b0) W5 WA := by rw [hWA]; exact (Chg.refl (fun k => k = b0) W5).setCell (.inl rfl) _
  have h60 : WA.heap[b0]? = some (.cells #[.int .u64 id, .slice a5 m5 l5, .int .u64 lost] 66) := by
    rw [hWA]
    simp only [World.setCell, Array.getElem?_modify, h50]
    simp
  have h62 : WA.heap[b0 + 2]? = some (.cells #[.int .u64 0, .slice none 0 0, .int .u64 0] 66) := c6.at h52 (by omega)
  have ha0 := h60
  have ha2 := h62
  have hde2 : ¬ (16 ≤ (n : Int)) := by omega
  obtain ⟨R, hR⟩ : ∃ R : Array Value, R = #[.int .u64 id, .slice a5 m5 l5, .int .u64 (lost)] := ⟨_, rfl⟩
  have hlR : (Instr.loadAt 66 (.pointer (some ⟨b0, 0, none⟩))).run Try.prog WA = .ok (.agg R) WA := by
    refine run_loadAt_mid WA b0 0 66 R.toList _ ?_ Try.underlying66 rfl (by rw [hR]; kernel_rfl)
    intro j v hv
    simp only [World.cell?, ha0, Nat.zero_add]
    rw [hR] at hv
    simpa using hv
  obtain ⟨WB, hst, hr2, hcB⟩ := store66 ha2 (by rfl) R (by rw [hR]; rfl) (by rw [hR]; intro u hu; simp at hu; rcases hu with rfl | rfl | rfl <;> rfl)
  refine ⟨.slice a5 m5 l5, WB, ?_, ?_, fun k hk => (how k hk).imp _root_.id fun h => by omega, ?_⟩
  · exact (hsl5.chg c6 fun k hk e => by have := hnn k hk; omega).chg hcB fun k hk e => by have := hnn k hk; omega
  · exact (((c3.mono (T := fun k => (Value.slice sa n sc).ownBlock = some k) fun _ _ h => h.elim).trans (cA5.mono fun k _ h => .inl h)).trans (c6.mono fun k _ h => .inr (by omega))).trans (hcB.mono fun k _ h => .inr (by omega))
  rw [← hE]
  have HB2 : Hid (WB.heap[b0 + 2]? = some (.cells R 66)) := hr2
  have HR : Hid (R = _) := hR
  clear hq0 hq1 hq2 c3 hsl3 hsl hlt hs1 hs2 hs3 hW1 hW2 hW3 hb0 hE hr2 hR hlen ha0 ha2 hcB hsl5 cA5 how h50 h52 hnn c6 h60 h62 hW4 hWA hm5
  go_enter Try.func30, Try.ntmps30
  go_wp2_with (first
      | ((with_reducible refine Step.wpList_op (.build 80 #[(0, .tmp 7)]) rfl ?_); refine Step.wpList_run rfl (.agg e.it.cells.toArray) W3 (Ex.build1 rfl hbe) ?_)
      | ((with_reducible refine Step.wpList_op (.load 78 (.tmp 3)) rfl ?_); refine Step.wpList_run rfl (.agg E) W3 (Ex.load rfl hle) ?_)
      | ((with_reducible refine Step.wpList_op (.buildSlice 58 1 #[(0, .tmp 8)]) rfl ?_); refine Step.wpList_run rfl _ W4 (Ex.buildSlice1 rfl hbs) ?_)
      | ((with_reducible refine Step.wpList_op (.call { callee := .builtin .append, args := #[.tmp 6, .tmp 9], argTypes := #[58, 58] }) rfl ?_); refine Step.wpList_run rfl _ W5 (Ex.append (t := 58) rfl hap) ?_)
      | ((with_reducible refine Step.wpList_op (.store 58 (.tmp 11) (.tmp 10)) rfl ?_); refine Step.wpList_skip1 rfl WA (Ex.store rfl hsA) ?_)
      | ((with_reducible refine Step.wpList_op (.box 66 (.tmp 0)) rfl ?_); refine Step.wpList_run rfl _ W1 (Ex.box rfl hx0) ?_)
      | ((with_reducible refine Step.wpList_op (.box 78 (.tmp 1)) rfl ?_); refine Step.wpList_run rfl _ W2 (Ex.box rfl hx1) ?_)
      | ((with_reducible refine Step.wpList_op (.alloc 66) rfl ?_); refine Step.wpList_run rfl _ W3 (Ex.alloc rfl hx2) ?_)
      | ((with_reducible refine Step.wpList_op (.load 66 (.tmp 2)) rfl ?_); refine Step.wpList_run rfl _ WA (Ex.load rfl hlR) ?_)
      | ((with_reducible refine Step.wpList_op (.store 66 (.tmp 4) (.tmp 47)) rfl ?_); refine Step.wpList_skip1 rfl WB (Ex.store rfl hst) ?_))
  (try simp only [Exit.inBlock, Exit.then])
  refine bodyPost_ret (v := .agg R) ?_ rfl ?_
  · exact results_cell_row rfl _ WB (b0 + 2) 66 R (0, 0) _ rfl HB2.out Try.underlying66 rfl (by rw [HR.out]; kernel_rfl)
  exact ⟨congrArg (fun r => Ending.returned (.agg r)) HR.out, rfl⟩

set_option maxRecDepth 100000 in
set_option maxHeartbeats 4000000 in
theorem rpush_gap (id : Nat) (sa : Option Addr) (n sc : Nat) (items : List It) (lost : Nat) (e : Ev) (w : World) (hsl : Sl w 80 35 (.slice sa n sc) (items.map It.cells)) (hlen : n = items.length) (h1 : n ≤ 14) (h3 : 0 < lost) :
    RPushed w id (.slice sa n sc) lost e (items ++ [gap lost, e.it], 0) := by
  obtain ⟨b0, hb0⟩ : ∃ b0, b0 = w.heap.size := ⟨_, rfl⟩
  obtain ⟨E, hE⟩ : ∃ E, E = e.cells.toArray := ⟨_, rfl⟩
  obtain ⟨W1, hW1⟩ : ∃ W1, W1 = w.alloc (.cells #[.int .u64 id, .slice sa n sc, .int .u64 lost] 66) := ⟨_, rfl⟩
  obtain ⟨W2, hW2⟩ : ∃ W2, W2 = W1.alloc (.cells E 78) := ⟨_, rfl⟩
  obtain ⟨W3, hW3⟩ : ∃ W3, W3 = W2.alloc (.cells #[.int .u64 0, .slice none 0 0, .int .u64 0] 66) := ⟨_, rfl⟩
  have hs1 : W1.heap.size = b0 + 1 := by rw [hW1, hb0]; simp
  have hs2 : W2.heap.size = b0 + 2 := by rw [hW2]; simp; omega
  have hs3 : W3.heap.size = b0 + 3 := by rw [hW3]; simp; omega
  have hx0 : (Instr.box 66 (.agg #[.int .u64 id, .slice sa n sc, .int .u64 lost])).run Try.prog w = .ok (.pointer (some ⟨b0, 0, none⟩)) W1 := by rw [hW1, hb0]; rfl
  have hx1 : (Instr.box 78 (.agg E)).run Try.prog W1 = .ok (.pointer (some ⟨b0 + 1, 0, none⟩)) W2 := by rw [hW2, ← hs1]; rfl
  have hx2 : (Instr.alloc 66 true (.tuple #[])).run Try.prog W2 = .ok (.pointer (some ⟨b0 + 2, 0, none⟩)) W3 := by rw [hW3, ← hs2]; kernel_rfl
  have hq0 : W3.heap[b0]? = some (.cells #[.int .u64 id, .slice sa n sc, .int .u64 lost] 66) := by
    rw [hW3, Below.heap_alloc _ _ _ (by omega), hW2, Below.heap_alloc _ _ _ (by omega), hW1, hb0]; exact heap_alloc_new _ _
  have hq1 : W3.heap[b0 + 1]? = some (.cells E 78) := by
    rw [hW3, Below.heap_alloc _ _ _ (by omega), hW2, ← hs1]; exact heap_alloc_new _ _
  have hq2 : W3.heap[b0 + 2]? = some (.cells #[.int .u64 0, .slice none 0 0, .int .u64 0] 66) := by
    rw [hW3, ← hs2]; exact heap_alloc_new _ _
  have c3 : Chg (fun _ => False) w W3 := by rw [hW3, hW2, hW1]; exact (((Chg.refl _ w).alloc _).alloc _).alloc _
  have hsl3 : Sl W3 80 35 (.slice sa n sc) (items.map It.cells) := hsl.chg c3 fun _ _ h => h
  have hlt : ∀ k, (Value.slice sa n sc).ownBlock = some k → k < b0 := fun k hk => by rw [hb0]; exact hsl.lt hk
  have hd0 : W3.cell? ⟨b0, 0, none⟩ = some (.int .u64 id) := by simp [World.cell?, hq0]
  have hd1 : W3.cell? ⟨b0, 1, none⟩ = some (.slice sa n sc) := by simp [World.cell?, hq0]
  have hd2 : W3.cell? ⟨b0, 2, none⟩ = some (.int .u64 lost) := by simp [World.cell?, hq0]
  have hf1 : W3.frozen? ⟨b0, 1, none⟩ = false := by simp [World.frozen?, hq0]
  have hf2 : W3.frozen? ⟨b0, 2, none⟩ = false := by simp [World.frozen?, hq0]
  have hle : (Instr.loadAt 78 (.pointer (some ⟨b0 + 1, 0, none⟩))).run Try.prog W3 = .ok (.agg E) W3 := by
    refine run_loadAt_mid W3 (b0 + 1) 0 78 E.toList _ ?_ Try.underlying78 rfl (by rw [hE]; kernel_rfl)
    intro j v hv
    simp only [World.cell?, hq1, Nat.zero_add]
    simpa using hv
  have hbe : (Instr.build 80 #[(0, .agg E)]).run Try.prog W3 = .ok (.agg e.it.cells.toArray) W3 := by rw [hE]; exact build80e e W3
  have hbg : (Instr.build 80 #[(1, .int .u64 lost)]).run Try.prog W3 = .ok (.agg (gap lost).cells.toArray) W3 := build80g lost W3
  obtain ⟨W4, hW4⟩ : ∃ W4, W4 = W3.alloc (.cells (([gap lost, e.it].map It.cells).flatten).toArray 80) := ⟨_, rfl⟩
  have hbs : (Instr.buildSlice 58 2 #[(0, .agg (gap lost).cells.toArray), (1, .agg e.it.cells.toArray)]).run Try.prog W3 = .ok (.slice (some ⟨b0 + 3, 0, none⟩) 2 2) W4 := by
    have := bs58b (gap lost) e.it W3
    rw [hs3] at this
    rw [hW4]; simpa using this
  obtain ⟨v5, W5, hap, hsl5, cA5, how⟩ := rmore hsl3 [gap lost, e.it] (by simp; omega) (by simp) 2 rfl
  rw [← hW4, hs3] at hap
  obtain ⟨a5, l5, hv5⟩ := hsl5.shape
  obtain ⟨m5, hm5⟩ : ∃ m5, m5 = (List.map It.cells (items ++ [gap lost, e.it])).length := ⟨_, rfl⟩
  rw [← hm5] at hv5
  subst hv5
  have h50 : W5.heap[b0]? = some (.cells #[.int .u64 id, .slice sa n sc, .int .u64 lost] 66) := (cA5.block b0 (by omega) fun h => by have := hlt _ h; omega).trans hq0
  have h52 : W5.heap[b0 + 2]? = some (.cells #[.int .u64 0, .slice none 0 0, .int .u64 0] 66) := (cA5.block (b0 + 2) (by omega) fun h => by have := hlt _ h; omega).trans hq2
  have hnn : ∀ k, (Value.slice a5 m5 l5).ownBlock = some k → k < b0 ∨ b0 + 3 ≤ k := fun k hk => by
    rcases how k hk with h | h
    · exact .inl (hlt k h)
    · rw [hs3] at h; exact .inr h
  obtain ⟨W6, hW6⟩ : ∃ W6, W6 = W5.setCell ⟨b0, 1, none⟩ (.slice a5 m5 l5) := ⟨_, rfl⟩
  have hsA : (Instr.storeAt 58 (.pointer (some ⟨b0, 1, none⟩)) (.slice a5 m5 l5)).run Try.prog W5 = .ok () W6 := by
    rw [hW6]; exact Ex.store1 (by kernel_rfl) rfl rfl (u := .slice sa n sc) (by simp [World.cell?, h50]) (by simp [World.frozen?, h50])
  have c6 : Chg (fun k => k = b0) W5 W6 := by rw [hW6]; exact (Chg.refl (fun k => k = b0) W5).setCell (.inl rfl) _
  have h60 : W6.heap[b0]? = some (.cells #[.int .u64 id, .slice a5 m5 l5, .int .u64 lost] 66) := by
    rw [hW6]
    simp only [World.setCell, Array.getElem?_modify, h50]
    simp
  have h62 : W6.heap[b0 + 2]? = some (.cells #[.int .u64 0, .slice none 0 0, .int .u64 0] 66) := c6.at h52 (by omega)
  have hw2 : W6.cell? ⟨b0, 2, none⟩ = some (.int .u64 lost) := by simp [World.cell?, h60]
  have hwf : W6.frozen? ⟨b0, 2, none⟩ = false := by simp [World.frozen?, h60]
  obtain ⟨WA, hWA⟩ : ∃ WA, WA = W6.setCell ⟨b0, 2, none⟩ (.int .u64 0) := ⟨_, rfl⟩
  have hsL : (Instr.storeAt 25 (.pointer (some ⟨b0, 2, none⟩)) (.int .u64 0)).run Try.prog W6 = .ok () WA := by rw [hWA]; exact Ex.store1 (by kernel_rfl) rfl rfl hw2 hwf
  have cA : Chg (fun k => k = b0) W6 WA := by rw [hWA]; exact (Chg.refl (fun k => k = b0) W6).setCell (.inl rfl) _
  have ha0 : WA.heap[b0]? = some (.cells #[.int .u64 id, .slice a5 m5 l5, .int .u64 0] 66) := by
    rw [hWA]
    simp only [World.setCell, Array.getElem?_modify, h60]
    simp
  have ha2 : WA.heap[b0 + 2]? = some (.cells #[.int .u64 0, .slice none 0 0, .int .u64 0] 66) := cA.at h62 (by omega)
  have hde2 : (n : Int) ≤ 14 := by omega
  obtain ⟨R, hR⟩ : ∃ R : Array Value, R = #[.int .u64 id, .slice a5 m5 l5, .int .u64 (0)] := ⟨_, rfl⟩
  have hlR : (Instr.loadAt 66 (.pointer (some ⟨b0, 0, none⟩))).run Try.prog WA = .ok (.agg R) WA := by
    refine run_loadAt_mid WA b0 0 66 R.toList _ ?_ Try.underlying66 rfl (by rw [hR]; kernel_rfl)
    intro j v hv
    simp only [World.cell?, ha0, Nat.zero_add]
    rw [hR] at hv
    simpa using hv
  obtain ⟨WB, hst, hr2, hcB⟩ := store66 ha2 (by rfl) R (by rw [hR]; rfl) (by rw [hR]; intro u hu; simp at hu; rcases hu with rfl | rfl | rfl <;> rfl)
  refine ⟨.slice a5 m5 l5, WB, ?_, ?_, fun k hk => (how k hk).imp _root_.id fun h => by omega, ?_⟩
  · exact ((hsl5.chg c6 fun k hk e => by have := hnn k hk; omega).chg cA fun k hk e => by have := hnn k hk; omega).chg hcB fun k hk e => by have := hnn k hk; omega
  · exact ((((c3.mono (T := fun k => (Value.slice sa n sc).ownBlock = some k) fun _ _ h => h.elim).trans (cA5.mono fun k _ h => .inl h)).trans (c6.mono fun k _ h => .inr (by omega))).trans (cA.mono fun k _ h => .inr (by omega))).trans (hcB.mono fun k _ h => .inr (by omega))
  rw [← hE]
  have HB2 : Hid (WB.heap[b0 + 2]? = some (.cells R 66)) := hr2
  have HR : Hid (R = _) := hR
  clear hq0 hq1 hq2 c3 hsl3 hsl hlt hs1 hs2 hs3 hW1 hW2 hW3 hb0 hE hr2 hR hlen ha0 ha2 hcB hsl5 cA5 how h50 h52 hnn c6 h60 h62 hW4 hW6 hm5 hWA cA
  go_enter Try.func30, Try.ntmps30
  go_wp2_with (first
      | ((with_reducible refine Step.wpList_op (.build 80 #[(1, .tmp 25)]) rfl ?_); refine Step.wpList_run rfl (.agg (gap lost).cells.toArray) W3 (Ex.build1 rfl hbg) ?_)
      | ((with_reducible refine Step.wpList_op (.load 78 (.tmp 3)) rfl ?_); refine Step.wpList_run rfl (.agg E) W3 (Ex.load rfl hle) ?_)
      | ((with_reducible refine Step.wpList_op (.build 80 #[(0, .tmp 27)]) rfl ?_); refine Step.wpList_run rfl (.agg e.it.cells.toArray) W3 (Ex.build1 rfl hbe) ?_)
      | ((with_reducible refine Step.wpList_op (.buildSlice 58 2 #[(0, .tmp 26), (1, .tmp 28)]) rfl ?_); refine Step.wpList_run rfl _ W4 (Ex.buildSlice2 rfl hbs) ?_)
      | ((with_reducible refine Step.wpList_op (.call { callee := .builtin .append, args := #[.tmp 23, .tmp 29], argTypes := #[58, 58] }) rfl ?_); refine Step.wpList_run rfl _ W5 (Ex.append (t := 58) rfl hap) ?_)
      | ((with_reducible refine Step.wpList_op (.store 58 (.tmp 31) (.tmp 30)) rfl ?_); refine Step.wpList_skip1 rfl W6 (Ex.store rfl hsA) ?_)
      | ((with_reducible refine Step.wpList_op (.store 25 (.tmp 32) (.const (.int .u64 0))) rfl ?_); refine Step.wpList_skip1 rfl WA (Ex.store rfl hsL) ?_)
      | ((with_reducible refine Step.wpList_op (.box 66 (.tmp 0)) rfl ?_); refine Step.wpList_run rfl _ W1 (Ex.box rfl hx0) ?_)
      | ((with_reducible refine Step.wpList_op (.box 78 (.tmp 1)) rfl ?_); refine Step.wpList_run rfl _ W2 (Ex.box rfl hx1) ?_)
      | ((with_reducible refine Step.wpList_op (.alloc 66) rfl ?_); refine Step.wpList_run rfl _ W3 (Ex.alloc rfl hx2) ?_)
      | ((with_reducible refine Step.wpList_op (.load 66 (.tmp 2)) rfl ?_); refine Step.wpList_run rfl _ WA (Ex.load rfl hlR) ?_)
      | ((with_reducible refine Step.wpList_op (.store 66 (.tmp 4) (.tmp 47)) rfl ?_); refine Step.wpList_skip1 rfl WB (Ex.store rfl hst) ?_))
  (try simp only [Exit.inBlock, Exit.then])
  refine bodyPost_ret (v := .agg R) ?_ rfl ?_
  · exact results_cell_row rfl _ WB (b0 + 2) 66 R (0, 0) _ rfl HB2.out Try.underlying66 rfl (by rw [HR.out]; kernel_rfl)
  exact ⟨congrArg (fun r => Ending.returned (.agg r)) HR.out, rfl⟩

/-- PUSH of the document's, to one watcher -/
theorem rpush_any (id : Nat) (sv : Value) (items : List It) (lost : Nat) (e : Ev) (w : World) (h : Sl w 80 35 sv (items.map It.cells)) (hn : items.length ≤ 16) (hbig : lost < 1000000) :
    RPushed w id sv lost e (pushI (items, lost) e) := by
  obtain ⟨sa, sc, hsv⟩ := h.shape
  rw [List.length_map] at hsv
  subst hsv
  unfold pushI
  simp only
  split
  · split
    · exact rpush_lost id sa _ sc items lost e w h rfl (by omega) (by omega) hbig
    · exact rpush_gap id sa _ sc items lost e w h rfl (by omega) (by omega)
  · split
    · have := rpush_full id sa _ sc items lost e w h rfl (by omega) (by omega)
      obtain rfl : lost = 0 := by omega
      exact this
    · have := rpush_room id sa _ sc items lost e w h rfl (by omega) (by omega)
      obtain rfl : lost = 0 := by omega
      exact this
end Go.Proofs.Ytdljloohgidbfaa
