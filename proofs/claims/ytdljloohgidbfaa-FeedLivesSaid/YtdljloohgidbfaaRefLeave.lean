/-
  The document's Leave.
-/
import Derived.Test.YtdljloohgidbfaaRefMore
namespace Go.Proofs.Ytdljloohgidbfaa
open Go Go.RowKit Go.Mem

theorem rows_one {w : World} {rows : List RRow} (h : ∀ r ∈ rows, Sl w 80 35 r.sv (r.items.map It.cells)) : ∀ y ∈ rows.map RRow.cells, ∀ u ∈ y, u.oneCell' = true := fun y hy => by
  obtain ⟨r, hr, rfl⟩ := List.mem_map.1 hy
  exact one_row (h r hr)
theorem pair_drop {α : Type} {R : α → α → Prop} {A B : List α} {r : α} (h : (A ++ r :: B).Pairwise R) : (A ++ B).Pairwise R := by
  have h1 := List.pairwise_append.1 h
  have h2 := List.pairwise_cons.1 h1.2.1
  exact List.pairwise_append.2 ⟨h1.1, h2.2, fun a ha b hb => h1.2.2 a ha b (List.mem_cons_of_mem _ hb)⟩
theorem mem_drop {α : Type} {A B : List α} {r s : α} (h : s ∈ A ++ B) : s ∈ A ++ r :: B := by
  rcases List.mem_append.1 h with h | h
  · exact List.mem_append.2 (.inl h)
  · exact List.mem_append.2 (.inr (List.mem_cons_of_mem _ h))

set_option maxRecDepth 100000 in
set_option maxHeartbeats 4000000 in
theorem rleave_walk (xb last : Nat) (sv : Value) (A B : List RRow) (r : RRow) (w : World) (h : RefRows w xb last sv (A ++ r :: B)) :
    Calls Try.prog 18 #[.pointer (some ⟨xb, 0, none⟩), .int .u64 r.id] w fun e w' => e = .returned (.bool true) ∧ ∃ sv', RefRows w' xb last sv' (A ++ B) ∧ Chg (fun k => k = xb) w w' ∧ (∀ k, sv'.ownBlock = some k → w.heap.size ≤ k) := by
  obtain ⟨a, c, hsv, hnc⟩ := Sl.shape2 h.sl
  have hfind := find_in h
  subst hsv
  obtain ⟨n, hn⟩ : ∃ n, n = ((A ++ r :: B).map RRow.cells).length := ⟨_, rfl⟩
  rw [← hn] at h hnc
  have hc0 : w.cell? ⟨xb, 0, none⟩ = some (.slice a n c) := by simp [World.cell?, h.cell]
  have hxb := lt_of_at h.cell
  have hob : (Value.slice a n c).ownBlock ≠ some xb := own_row h.sl h.cell (by decide)
  have hnum := h.num
  obtain ⟨j, hj⟩ : ∃ j, j = A.length := ⟨_, rfl⟩
  have hjn : j < n := by rw [hn, hj]; simp
  have hn8 : n ≤ 8 := by rw [hn, List.length_map]; exact hnum
  obtain ⟨ie, hi, hz, hsz, hby⟩ := info66
  -- out = append(nil, f.L[:at])
  have hs1 : (Instr.sliceAt 51 (.slice a n c) none (some (.int .i64 (j : Int))) none).run Try.prog w = .ok (Go.sliced a 0 j c 3) w := Ex.slice_h Try.underlying51 hi hsz w a j n c .i64 (by omega)
  have hsl1 : Sl w 66 3 (Go.sliced a 0 j c 3) (A.map RRow.cells) := by
    have h1 := h.sl.sliced (l := 0) (hi := j) (m := c) (by omega) (by rw [← hn]; omega) (by omega) (Nat.le_refl _)
    have e1 : (((A ++ r :: B).map RRow.cells).drop 0).take (j - 0) = A.map RRow.cells := by
      rw [List.drop_zero, Nat.sub_zero, List.map_append]
      exact List.take_left' (by rw [List.length_map, hj])
    rw [e1] at h1; exact h1
  have hrowsA : ∀ s ∈ A, Sl w 80 35 s.sv (s.items.map It.cells) := fun s hs => h.row s (List.mem_append.2 (.inl hs))
  obtain ⟨v6, W1, hap1, hsl6, cW1, how6⟩ := Sl.appendS (P := Try.prog) 51 51 Try.underlying51 hi hz hsz hby rfl (Sl.nil w 66 3) hsl1 (rows_one hrowsA) (by simp only [List.length_nil, List.length_map]; unfold maxLen; omega) (by simp only [List.length_nil, List.length_map]; omega)
  have cW1 : Chg (fun _ => False) w W1 := cW1.mono fun k _ h => by simp [Value.ownBlock] at h
  have hn6 : ∀ k, v6.ownBlock = some k → w.heap.size ≤ k := fun k hk => by
    rcases how6 with ho | ho
    · rw [ho] at hk; simp [Value.ownBlock] at hk
    · rw [ho] at hk; cases hk; exact Nat.le_refl _
  rw [List.nil_append] at hsl6
  have hcx1 : W1.heap[xb]? = some (.cells #[.slice a n c, .int .u64 last] 53) := cW1.at h.cell id
  have hc1 : W1.cell? ⟨xb, 0, none⟩ = some (.slice a n c) := by simp [World.cell?, hcx1]
  -- append(out, f.L[at+1:])
  have hs2 : (Instr.sliceAt 51 (.slice a n c) (some (.int .i64 ((j + 1 : Nat) : Int))) none none).run Try.prog W1 = .ok (Go.sliced a (j + 1) n c 3) W1 := Ex.slice_l Try.underlying51 hi hsz W1 a (j + 1) n c .i64 (by omega)
  have hsl2 : Sl W1 66 3 (Go.sliced a (j + 1) n c 3) (B.map RRow.cells) := by
    have h1 := (h.sl.chg cW1 fun _ _ h => h).sliced (l := j + 1) (hi := n) (m := c) (by omega) (by rw [← hn]; exact Nat.le_refl _) (by omega) (Nat.le_refl _)
    have e1 : (((A ++ r :: B).map RRow.cells).drop (j + 1)).take (n - (j + 1)) = B.map RRow.cells := by
      have e2 : ((A ++ r :: B).map RRow.cells).drop (j + 1) = B.map RRow.cells := by
        rw [show A ++ r :: B = (A ++ [r]) ++ B by simp, List.map_append]
        exact List.drop_left' (by rw [List.length_map, List.length_append, hj]; rfl)
      rw [e2, List.take_of_length_le]
      rw [hn]; simp; omega
    rw [e1] at h1; exact h1
  have hrowsB : ∀ s ∈ B, Sl W1 80 35 s.sv (s.items.map It.cells) := fun s hs => (h.row s (List.mem_append.2 (.inr (List.mem_cons_of_mem _ hs)))).chg cW1 fun _ _ h => h
  have hlab : A.length + B.length ≤ 8 := by simp at hnum; omega
  obtain ⟨v7, W2, hap2, hsl7, cW2, how7⟩ := Sl.appendS (P := Try.prog) 51 51 Try.underlying51 hi hz hsz hby rfl hsl6 hsl2 (rows_one hrowsB) (by simp only [List.length_map]; unfold maxLen; omega) (by simp only [List.length_map]; omega)
  have hn7 : ∀ k, v7.ownBlock = some k → w.heap.size ≤ k := fun k hk => by
    rcases how7 with ho | ho
    · exact hn6 k (by rw [← ho]; exact hk)
    · rw [ho] at hk; cases hk; exact cW1.size
  rw [← List.map_append] at hsl7
  have hcx2 : W2.heap[xb]? = some (.cells #[.slice a n c, .int .u64 last] 53) := cW2.at hcx1 fun h => by have := hn6 _ h; omega
  obtain ⟨a7, c7, hv7, _⟩ := Sl.shape2 hsl7
  obtain ⟨n7, hn7'⟩ : ∃ n7, n7 = ((A ++ B).map RRow.cells).length := ⟨_, rfl⟩
  rw [← hn7'] at hv7
  obtain ⟨a6, c6, hv6, _⟩ := Sl.shape2 hsl6
  subst hv7 hv6
  obtain ⟨W3, hW3⟩ : ∃ W3, W3 = W2.setCell ⟨xb, 0, none⟩ (.slice a7 n7 c7) := ⟨_, rfl⟩
  have hst : (Instr.storeAt 51 (.pointer (some ⟨xb, 0, none⟩)) (.slice a7 n7 c7)).run Try.prog W2 = .ok () W3 := by
    rw [hW3]; exact Ex.store1 (by kernel_rfl) rfl rfl (u := .slice a n c) (by simp [World.cell?, hcx2]) (by simp [World.frozen?, hcx2])
  have c3 : Chg (fun k => k = xb) W2 W3 := by rw [hW3]; exact (Chg.refl (fun k => k = xb) W2).setCell (.inl rfl) _
  have hAll : Chg (fun k => k = xb) w W3 := ((cW1.mono (T := fun k => k = xb) fun _ _ h => h.elim).trans (cW2.mono fun k _ h => .inr (hn6 k h))).trans (c3.mono fun k _ h => .inl h)
  have HF : Hid (RefRows W3 xb last (.slice a7 n7 c7) (A ++ B)) := by
    refine ⟨?_, hsl7.chg c3 fun k hk e => by have := hn7 k hk; omega, fun s hs => (h.row s (mem_drop hs)).chg hAll fun k hk e => ?_, pair_drop h.apart, pair_drop h.ids, fun s hs => h.upto s (mem_drop hs), h.big, fun s hs => h.few s (mem_drop hs), by simp at hnum ⊢; omega⟩
    · rw [hW3]
      simp only [World.setCell, Array.getElem?_modify, hcx2]
      simp
    · subst e; exact own_row (h.row s (mem_drop hs)) h.cell (by decide) hk
  have HC : Hid (Chg (fun k => k = xb) w W3) := hAll
  have HN : Hid (∀ k, (Value.slice a7 n7 c7).ownBlock = some k → w.heap.size ≤ k) := hn7
  rw [← hj] at hfind
  obtain ⟨xa, xl, xc, hV1⟩ : ∃ xa xl xc, Go.sliced a 0 j c 3 = .slice xa xl xc := ⟨_, _, _, rfl⟩
  obtain ⟨ya, yl, yc, hV2⟩ : ∃ ya yl yc, Go.sliced a (j + 1) n c 3 = .slice ya yl yc := ⟨_, _, _, rfl⟩
  rw [hV1] at hs1 hap1
  rw [hV2] at hs2 hap2
  have hcast : ((j + 1 : Nat) : Int) = (j : Int) + 1 := rfl
  rw [hcast] at hs2
  clear hsl1 hsl2 hrowsA hrowsB hsl6 cW1 how6 hn6 hcx1 hsl7 cW2 how7 hn7 hcx2 hn7' hW3 c3 hAll h hn hj hob hV1 hV2 hi hz hsz hby hnc hxb hnum hlab hcast
  obtain ⟨n6, hn6⟩ : ∃ n6, n6 = (A.map RRow.cells).length := ⟨_, rfl⟩
  rw [← hn6] at hap1 hap2
  clear hn6
  go_enter Try.func18, Try.ntmps18
  go_wp2_with fail
  refine hfind.mono ?_
  rintro e w9 ⟨rfl, hw9⟩
  rw [hw9]
  clear hw9 w9 hfind
  go_wp2_with (first
    | ((with_reducible refine Step.wpList_op (.slice 51 (.tmp 16) none (some (.tmp 17)) none) rfl ?_); refine Step.wpList_run rfl _ _ (Ex.slice rfl hs1) ?_)
    | ((with_reducible refine Step.wpList_op (.slice 51 (.tmp 25) (some (.tmp 27)) none none) rfl ?_); refine Step.wpList_run rfl _ _ (Ex.slice rfl hs2) ?_)
    | ((with_reducible refine Step.wpList_op (.call { callee := .builtin .append, args := #[.tmp 12, .tmp 18], argTypes := #[51, 51] }) rfl ?_); refine Step.wpList_run rfl _ W1 (Ex.append (t := 51) rfl hap1) ?_)
    | ((with_reducible refine Step.wpList_op (.call { callee := .builtin .append, args := #[.tmp 21, .tmp 28], argTypes := #[51, 51] }) rfl ?_); refine Step.wpList_run rfl _ W2 (Ex.append (t := 51) rfl hap2) ?_)
    | ((with_reducible refine Step.wpList_op (.store 51 (.tmp 31) (.tmp 29)) rfl ?_); refine Step.wpList_skip1 rfl W3 (Ex.store rfl hst) ?_))
  go_ret
  exact ⟨rfl, _, HF.out, HC.out, HN.out⟩

set_option maxRecDepth 100000 in
set_option maxHeartbeats 2000000 in
theorem rleave_out (xb last : Nat) (sv : Value) (rows : List RRow) (x : Nat) (w : World) (h : RefRows w xb last sv rows) (hx : ∀ r ∈ rows, r.id ≠ x) :
    Calls Try.prog 18 #[.pointer (some ⟨xb, 0, none⟩), .int .u64 x] w fun e w' => e = .returned (.bool false) ∧ w' = w := by
  have hfind := find_out h hx
  clear h hx
  go_enter Try.func18, Try.ntmps18
  go_wp2_with fail
  refine hfind.mono ?_
  rintro e w9 ⟨rfl, hw9⟩
  rw [hw9]
  clear hw9 w9 hfind
  go_wp2_with fail
  go_ret
  exact ⟨rfl, rfl⟩

/-- what is left where one has gone -/
def gone (x : Nat) (l : List AR) : List AR := l.filter fun a => a.1 ≠ x
theorem gone_split {A B : List AR} {a : AR} (h : (A ++ a :: B).Pairwise fun r s => r.1 < s.1) : gone a.1 (A ++ a :: B) = A ++ B := by
  have h1 := List.pairwise_append.1 h
  have h2 := List.pairwise_cons.1 h1.2.1
  unfold gone
  rw [List.filter_append, List.filter_cons]
  simp only [ne_eq, not_true_eq_false, decide_false, Bool.false_eq_true, if_false]
  rw [List.filter_eq_self.2 fun s hs => ?_, List.filter_eq_self.2 fun s hs => ?_]
  · have := h2.1 s hs; simp; omega
  · have := h1.2.2 s hs a (by simp); simp; omega
theorem rleave_is {w : World} {p : Value} {F : Nat × List AR} {S : Nat → Prop} (h : IsRef w p F S) (a : AR) (ha : a ∈ F.2) :
    Calls Try.prog 18 #[p, .int .u64 a.1] w fun e w' => e = .returned (.bool true) ∧ ∃ S', IsRef w' p (F.1, gone a.1 F.2) S' ∧ (∀ k, S' k → S k ∨ w.heap.size ≤ k) ∧ Chg S w w' := by
  obtain ⟨xb, sv, rows, rfl, hf, hF, hS⟩ := h
  rw [← hF] at ha
  obtain ⟨r, hr, rfl⟩ := List.mem_map.1 ha
  obtain ⟨A, B, rfl⟩ := rrow_split hr
  refine (rleave_walk xb F.1 sv A B r w hf).mono ?_
  rintro e w' ⟨rfl, sv', h1, h2, h3⟩
  refine ⟨rfl, _, ⟨xb, sv', _, rfl, h1, ?_, fun _ => Iff.rfl⟩, fun k hk => ?_, h2.mono fun k _ h => (hS k).2 (.inl h)⟩
  · rw [← hF, List.map_append, List.map_append, List.map_cons]
    refine (gone_split ?_).symm
    have h5 := hf.ids
    have h4 := (List.pairwise_map (f := absRR) (R := fun r s : AR => r.1 < s.1)).2 h5
    rw [List.map_append, List.map_cons] at h4
    exact h4
  · rcases hk with hk | hk | ⟨s, hs, hk⟩
    · exact .inl ((hS k).2 (.inl hk))
    · exact .inr (h3 k hk)
    · exact .inl ((hS k).2 (.inr (.inr ⟨s, mem_drop hs, hk⟩)))
theorem rleave_no {w : World} {p : Value} {F : Nat × List AR} {S : Nat → Prop} (h : IsRef w p F S) (x : Nat) (hn : ∀ a ∈ F.2, a.1 ≠ x) :
    Calls Try.prog 18 #[p, .int .u64 x] w fun e w' => e = .returned (.bool false) ∧ w' = w := by
  obtain ⟨xb, sv, rows, rfl, hf, hF, hS⟩ := h
  exact rleave_out xb F.1 sv rows x w hf fun r hr => hn _ (by rw [← hF]; exact List.mem_map.2 ⟨r, hr, rfl⟩)
end Go.Proofs.Ytdljloohgidbfaa
