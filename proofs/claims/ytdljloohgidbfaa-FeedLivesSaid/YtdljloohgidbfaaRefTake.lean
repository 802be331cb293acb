/-
  The document's Take.
-/
import Derived.Test.YtdljloohgidbfaaRefLeave
namespace Go.Proofs.Ytdljloohgidbfaa
open Go Go.RowKit Go.Mem

theorem load80 {w : World} {g o : Nat} {x : It} (h : w.rangeAt g o x.cells) : (Instr.loadAt 80 (.pointer (some ⟨g, o, none⟩))).run Try.prog w = .ok (.agg x.cells.toArray) w :=
  run_loadAt_mid w g o 80 x.cells _ h Try.underlying80 rfl (by kernel_rfl)
theorem index58 (w : World) (g o n c j : Nat) (h : j < n) : (Instr.indexAt 58 (.slice (some ⟨g, o, none⟩) n c) (.int .i64 j)).run Try.prog w = .ok (.pointer (some ⟨g, o + j * 35, none⟩)) w := by
  obtain ⟨i, hi, _, hz, _⟩ := info80
  exact Ex.index_sl Try.underlying58 hi hz w g o n c j .i64 h

/-- the loop's state -/
structure TakeI (w : World) (items : List It) (N i q : Nat) (v10 v11 : Value) (wr : World) : Prop where
  chg : Chg (fun _ => False) w wr
  out : Sl wr 80 35 v10 ((items.take q).map It.cells)
  left : Sl wr 80 35 v11 (((items.take i).drop N).map It.cells)
  o10 : ∀ k, v10.ownBlock = some k → w.heap.size ≤ k
  o11 : ∀ k, v11.ownBlock = some k → w.heap.size ≤ k
  apart : ∀ k, v10.ownBlock = some k → v11.ownBlock ≠ some k

/-- what the take leaves -/
structure RTook (w : World) (xb last : Nat) (sv : Value) (A B : List RRow) (r : RRow) (n : Int) (v : Value) (w' : World) : Prop where
  sl : Sl w' 80 35 v ((takeI (r.items, r.lost) n).1.map It.cells)
  new : ∀ k, v.ownBlock = some k → w.heap.size ≤ k
  feed : ∃ sv2, (∀ k, sv2.ownBlock = some k → w.heap.size ≤ k) ∧ RefRows w' xb last sv (A ++ ⟨r.id, sv2, (takeI (r.items, r.lost) n).2.1, (takeI (r.items, r.lost) n).2.2⟩ :: B)
  chg : Chg (fun k => sv.ownBlock = some k) w w'

theorem rtook_done {w W0 W9 : World} {xb last : Nat} {g o L c : Nat} {A B : List RRow} {r : RRow} {n : Int} {v10 v11 : Value} {left : List It} {lost : Nat} (h : RefRows w xb last (.slice (some ⟨g, o, none⟩) L c) (A ++ r :: B)) (hc0 : Chg (fun _ => False) w W0)
    (hout : Sl W0 80 35 v10 ((takeI (r.items, r.lost) n).1.map It.cells)) (hleft : Sl W0 80 35 v11 (left.map It.cells)) (h10 : ∀ k, v10.ownBlock = some k → w.heap.size ≤ k) (h11 : ∀ k, v11.ownBlock = some k → w.heap.size ≤ k)
    (ht : (takeI (r.items, r.lost) n).2 = (left, lost)) (hl16 : left.length ≤ 16) (hsl9 : Sl W9 66 3 (.slice (some ⟨g, o, none⟩) L c) ((A ++ ⟨r.id, v11, left, lost⟩ :: B).map RRow.cells)) (hc9 : Chg (fun k => k = g) W0 W9) :
    RTook w xb last (.slice (some ⟨g, o, none⟩) L c) A B r n v10 W9 := by
  have hg : g < w.heap.size := h.sl.lt rfl
  have hcc : Chg (fun k => (Value.slice (some ⟨g, o, none⟩) L c).ownBlock = some k) w W9 := (hc0.mono (T := fun k => (Value.slice (some ⟨g, o, none⟩) L c).ownBlock = some k) fun _ _ h => h.elim).trans (hc9.mono fun k _ h => .inl (by rw [h]; rfl))
  refine ⟨hout.chg hc9 fun k hk e => by have := h10 k hk; omega, h10, ⟨v11, h11, ?_⟩, hcc⟩
  rw [ht]
  exact h.turn ⟨r.id, v11, left, lost⟩ rfl hsl9 (hleft.chg hc9 fun k hk e => by have := h11 k hk; omega) hl16 (hcc.mono fun _ _ h => .inl h) fun k hk => .inr (h11 k hk)

set_option maxRecDepth 100000 in
set_option maxHeartbeats 8000000 in
theorem rtake_walk (xb last : Nat) (sv : Value) (A B : List RRow) (r : RRow) (n : Int) (w : World) (h : RefRows w xb last sv (A ++ r :: B)) :
    Calls Try.prog 21 #[.pointer (some ⟨xb, 0, none⟩), .int .u64 r.id, .int .i64 n] w fun e w' => ∃ v, e = .returned (.tuple #[v, .int .i64 0]) ∧ RTook w xb last sv A B r n v w' := by
  obtain ⟨a, c, hsv, hnc⟩ := Sl.shape2 h.sl
  have hfind := find_in h
  subst hsv
  obtain ⟨L, hL⟩ : ∃ L, L = ((A ++ r :: B).map RRow.cells).length := ⟨_, rfl⟩
  rw [← hL] at h
  obtain ⟨g, o, rfl⟩ := row_some h.sl
  rw [← hL]
  have hjL : A.length < L := by rw [hL]; simp
  have hL8 : L ≤ 8 := by rw [hL, List.length_map]; exact h.num
  have hc0 : w.cell? ⟨xb, 0, none⟩ = some (.slice (some ⟨g, o, none⟩) L c) := by simp [World.cell?, h.cell]
  obtain ⟨g', o', c', hv', hrr⟩ := h.sl.at (i := A.length) (x := r.cells) (by simp)
  have hv1 := (Value.slice.inj hv').1
  cases hv1
  clear hv'
  have hrow := h.row r (by simp)
  obtain ⟨ra, rc, hrv⟩ := hrow.shape
  rw [List.length_map] at hrv
  obtain ⟨m, hm⟩ : ∃ m, m = r.items.length := ⟨_, rfl⟩
  rw [← hm] at hrv
  have hm16 : m ≤ 16 := by rw [hm]; exact h.few r (by simp)
  obtain ⟨bt, hbt⟩ : ∃ bt, bt = w.heap.size := ⟨_, rfl⟩
  have hld := load66 hrr
  obtain ⟨W1, hW1⟩ : ∃ W1, W1 = w.alloc (.cells #[.int .u64 0, .slice none 0 0, .int .u64 0] 66) := ⟨_, rfl⟩
  have hal : (Instr.alloc 66 true (.tuple #[])).run Try.prog w = .ok (.pointer (some ⟨bt, 0, none⟩)) W1 := by rw [hW1, hbt]; kernel_rfl
  have hq1 : W1.heap[bt]? = some (.cells #[.int .u64 0, .slice none 0 0, .int .u64 0] 66) := by rw [hW1, hbt]; exact heap_alloc_new _ _
  have hs1 : W1.heap.size = bt + 1 := by rw [hW1, hbt]; simp
  obtain ⟨W2, hst2, hq2, c2⟩ := store66 hq1 rfl r.cells.toArray (by rfl) (one_row hrow)
  have cW1 : Chg (fun _ => False) w W1 := by rw [hW1]; exact (Chg.refl _ w).alloc _
  have cW2 : Chg (fun _ => False) w W2 := cW1.trans (c2.mono fun k _ h => .inr (by omega))
  have hs2 : bt + 1 ≤ W2.heap.size := by rw [← hs1]; exact c2.size
  have hrow2 : Sl W2 80 35 r.sv (r.items.map It.cells) := hrow.chg cW2 fun _ _ h => h
  have hd0 : r.cells = [.int .u64 r.id, .slice ra m rc, .int .u64 r.lost] := by unfold RRow.cells; rw [hrv]
  rw [hrv] at hrow2
  obtain ⟨R, hR⟩ : ∃ R, R = r.cells.toArray := ⟨_, rfl⟩
  rw [← hR] at hld hst2 hq2
  have hR3 : R = #[.int .u64 r.id, .slice ra m rc, .int .u64 r.lost] := by rw [hR, hd0]
  obtain ⟨N, hN⟩ : ∃ N, N = n.toNat := ⟨_, rfl⟩
  have HI0 : Hid (TakeI W2 r.items N 0 0 (.slice none 0 0) (.slice none 0 0) W2) := ⟨Chg.refl _ _, Sl.nil _ _ _, by rw [List.take_zero, List.drop_nil]; exact Sl.nil _ _ _, fun k hk => by simp [Value.ownBlock] at hk, fun k hk => by simp [Value.ownBlock] at hk, fun k hk => by simp [Value.ownBlock] at hk⟩
  have H : Hid (RefRows w xb last (.slice (some ⟨g, o, none⟩) L c) (A ++ r :: B)) := h
  have HM : Hid (m = r.items.length) := hm
  have HROW : Hid (Sl W2 80 35 (.slice ra m rc) (r.items.map It.cells)) := hrow2
  have HQ2 : Hid (W2.heap[bt]? = some (.cells R 66)) := hq2
  have HR3 : Hid (R = #[.int .u64 r.id, .slice ra m rc, .int .u64 r.lost]) := hR3
  have HC2 : Hid (Chg (fun _ => False) w W2) := cW2
  have HS2 : Hid (bt + 1 ≤ W2.heap.size) := hs2
  have HBT : Hid (bt = w.heap.size) := hbt
  have HN : Hid (N = n.toNat) := hN
  have HRV : Hid (r.sv = .slice ra m rc) := hrv
  have HHL : Hid (L = ((A ++ r :: B).map RRow.cells).length) := hL
  clear h hL hnc hrr hrow hrv hm hbt hW1 hq1 hs1 hq2 c2 cW1 cW2 hs2 hrow2 hd0 hR hR3 hN
  go_enter Try.func21, Try.ntmps21
  go_wp2_with fail
  refine hfind.mono ?_
  rintro e w9 ⟨rfl, hw9⟩
  rw [hw9]
  clear hw9 w9 hfind
  go_wp2_with (first
    | ((with_reducible refine Step.wpList_op (.load 66 (.tmp 23)) rfl ?_); refine Step.wpList_run rfl (.agg R) w (Ex.load rfl hld) ?_)
    | ((with_reducible refine Step.wpList_op (.alloc 66) rfl ?_); refine Step.wpList_run rfl _ W1 (Ex.alloc rfl hal) ?_)
    | ((with_reducible refine Step.wpList_op (.store 66 (.tmp 9) (.tmp 24)) rfl ?_); refine Step.wpList_skip1 rfl W2 (Ex.store rfl hst2) ?_))
  clear hld hal hst2
  go_loopw [10, 11, 12] (fun v10 v11 i wr => ∃ (i' q : Nat) (a10 : Option Addr) (c10 : Nat) (a11 : Option Addr) (l11 c11 : Nat), i = .int .i64 i' ∧ v10 = .slice a10 q c10 ∧ v11 = .slice a11 l11 c11 ∧ i' ≤ m ∧ q = min i' N ∧ TakeI W2 r.items N i' q (.slice a10 q c10) (.slice a11 l11 c11) wr) (fun _ _ i _ => m - (intOf i).toNat)
  case atStart => exact ⟨0, 0, none, 0, none, 0, 0, rfl, rfl, rfl, Nat.zero_le _, by omega, HI0.out⟩
  case round =>
    obtain ⟨i, q, a10, c10, a11, l11, c11, rfl, rfl, rfl, him, hq, hI⟩ := hrel
    have hb2 : wr.heap[bt]? = some (.cells R 66) := hI.chg.at HQ2.out id
    have hcl : wr.cell? ⟨bt, 1, none⟩ = some (.slice ra m rc) := by simp [World.cell?, hb2, HR3.out]
    have hcs : wr.cell? ⟨bt, 2, none⟩ = some (.int .u64 r.lost) := by simp [World.cell?, hb2, HR3.out]
    by_cases hlt : i < m
    · obtain ⟨x, hx⟩ : ∃ x, r.items[i]? = some x := ⟨_, List.getElem?_eq_getElem (by rw [← HM.out]; exact hlt)⟩
      obtain ⟨gi, oi, ci, hvi, hri⟩ := (HROW.out.chg hI.chg fun _ _ h => h).at (i := i) (x := x.cells) (by rw [List.getElem?_map, hx]; rfl)
      have hra : ra = some ⟨gi, oi, none⟩ := (Value.slice.inj hvi).1
      subst hra
      have hlx := load80 hri
      have hix := index58 wr gi oi m rc i hlt
      obtain ⟨WB, hWB⟩ : ∃ WB, WB = wr.alloc (.cells (([x].map It.cells).flatten).toArray 80) := ⟨_, rfl⟩
      have hbs : (Instr.buildSlice 58 1 #[(0, .agg x.cells.toArray)]).run Try.prog wr = .ok (.slice (some ⟨wr.heap.size, 0, none⟩) 1 1) WB := by
        have := bs58 x wr
        rw [hWB]; simpa using this
      by_cases hiN : i < N
      · obtain ⟨v', W', hap, hsl', hc', how⟩ := rmore hI.out [x] (by rw [List.length_take]; simp; omega) (by simp) 1 rfl
        rw [← hWB] at hap
        obtain ⟨ax, cx, hvx⟩ := hsl'.shape
        have hqi : q = i := by omega
        have hlen : ((r.items.take q ++ [x]).map It.cells).length = q + 1 := by rw [List.length_map, List.length_append, List.length_take, ← HM.out]; simp; omega
        rw [hlen] at hvx
        subst hvx
        have hout : r.items.take q ++ [x] = r.items.take (q + 1) := by rw [List.take_add_one, hqi, hx]; rfl
        rw [hout] at hsl'
        have HNX : Hid (TakeI W2 r.items N (i + 1) (q + 1) (.slice ax (q + 1) cx) (.slice a11 l11 c11) W') := by
          have hl1 : (r.items.take (i + 1)).drop N = (r.items.take i).drop N := by
            rw [List.drop_of_length_le (by rw [List.length_take]; omega), List.drop_of_length_le (by rw [List.length_take]; omega)]
          refine ⟨hI.chg.trans (hc'.mono fun k _ h => .inr (hI.o10 k h)), hsl', ?_, fun k hk => ?_, hI.o11, fun k hk => ?_⟩
          · rw [hl1]; exact hI.left.chg hc' fun k hk h => hI.apart k h hk
          · rcases how k hk with h | h
            · exact hI.o10 k h
            · exact Nat.le_trans hI.chg.size h
          · rcases how k hk with h | h
            · exact hI.apart k h
            · intro he; have := hI.left.lt he; omega
        have hqn : (q : Int) < n := by have := HN.out; omega
        have HQ : Hid (q = i) := hqi
        have HIN : Hid (i < N) := hiN
        clear hI hx hvi hri hb2 hsl' hc' how hlen hout hqi hiN hWB hq hcs
        go_wp2_with (first
          | ((with_reducible refine Step.wpList_op (.load 80 (.tmp 40)) rfl ?_); refine Step.wpList_run rfl (.agg x.cells.toArray) wr (Ex.load rfl hlx) ?_)
          | ((with_reducible refine Step.wpList_op (.indexAddr 58 (.tmp 38) (.tmp 39)) rfl ?_); refine Step.wpList_run rfl _ wr (Ex.indexAddr rfl hix) ?_)
          | ((with_reducible refine Step.wpList_op (.buildSlice 58 1 #[(0, .tmp 41)]) rfl ?_); refine Step.wpList_run rfl _ WB (Ex.buildSlice1 rfl hbs) ?_)
          | ((with_reducible refine Step.wpList_op (.call { callee := .builtin .append, args := #[.tmp 36, .tmp 42], argTypes := #[58, 58] }) rfl ?_); refine Step.wpList_run rfl _ W' (Ex.append (t := 58) rfl hap) ?_))
        refine ⟨⟨i + 1, q + 1, ax, cx, a11, l11, c11, by go_num, rfl, rfl, by omega, by have := HQ.out; have := HIN.out; omega, HNX.out⟩, ?_⟩
        simp [intOf]; omega
      · obtain ⟨v', W', hap, hsl', hc', how⟩ := rmore hI.left [x] (by rw [List.length_drop, List.length_take]; simp; omega) (by simp) 1 rfl
        rw [← hWB] at hap
        obtain ⟨ax, cx, hvx⟩ := hsl'.shape
        obtain ⟨lx, hlx'⟩ : ∃ lx, lx = (((r.items.take i).drop N ++ [x]).map It.cells).length := ⟨_, rfl⟩
        rw [← hlx'] at hvx
        subst hvx
        have hout : (r.items.take i).drop N ++ [x] = (r.items.take (i + 1)).drop N := by
          rw [List.take_add_one, hx, List.drop_append_of_le_length (by rw [List.length_take, ← HM.out]; omega)]; rfl
        rw [hout] at hsl'
        have HNX : Hid (TakeI W2 r.items N (i + 1) q (.slice a10 q c10) (.slice ax lx cx) W') := by
          refine ⟨hI.chg.trans (hc'.mono fun k _ h => .inr (hI.o11 k h)), hI.out.chg hc' fun k hk h => hI.apart k hk h, hsl', hI.o10, fun k hk => ?_, fun k hk he => ?_⟩
          · rcases how k hk with h | h
            · exact hI.o11 k h
            · exact Nat.le_trans hI.chg.size h
          · rcases how k he with h | h
            · exact hI.apart k hk h
            · have := hI.out.lt hk; omega
        have hqn : ¬ (q : Int) < n := by have := HN.out; omega
        have HQ : Hid (q = min i N) := hq
        have HIN : Hid (¬ i < N) := hiN
        clear hI hx hvi hri hb2 hsl' hc' how hout hiN hWB hq hcs hlx'
        go_wp2_with (first
          | ((with_reducible refine Step.wpList_op (.load 80 (.tmp 48)) rfl ?_); refine Step.wpList_run rfl (.agg x.cells.toArray) wr (Ex.load rfl hlx) ?_)
          | ((with_reducible refine Step.wpList_op (.indexAddr 58 (.tmp 46) (.tmp 47)) rfl ?_); refine Step.wpList_run rfl _ wr (Ex.indexAddr rfl hix) ?_)
          | ((with_reducible refine Step.wpList_op (.buildSlice 58 1 #[(0, .tmp 49)]) rfl ?_); refine Step.wpList_run rfl _ WB (Ex.buildSlice1 rfl hbs) ?_)
          | ((with_reducible refine Step.wpList_op (.call { callee := .builtin .append, args := #[.tmp 44, .tmp 50], argTypes := #[58, 58] }) rfl ?_); refine Step.wpList_run rfl _ W' (Ex.append (t := 58) rfl hap) ?_))
        refine ⟨⟨i + 1, q, a10, c10, ax, lx, cx, by go_num, rfl, rfl, by omega, by have := HQ.out; have := HIN.out; omega, HNX.out⟩, ?_⟩
        simp [intOf]; omega
    · have him' : i = m := by omega
      obtain ⟨W3, hW3⟩ : ∃ W3, W3 = wr.setCell ⟨bt, 1, none⟩ (.slice a11 l11 c11) := ⟨_, rfl⟩
      have hst3 : (Instr.storeAt 58 (.pointer (some ⟨bt, 1, none⟩)) (.slice a11 l11 c11)).run Try.prog wr = .ok () W3 := by
        rw [hW3]; exact Ex.store1 (by kernel_rfl) rfl rfl hcl (by simp [World.frozen?, hb2])
      have c3 : Chg (fun k => k = bt) wr W3 := by rw [hW3]; exact (Chg.refl (fun k => k = bt) wr).setCell (.inl rfl) _
      have hb3 : W3.heap[bt]? = some (.cells #[.int .u64 r.id, .slice a11 l11 c11, .int .u64 r.lost] 66) := by
        rw [hW3]
        simp only [World.setCell, Array.getElem?_modify, hb2, HR3.out]
        simp
      have hl3 : W3.cell? ⟨bt, 2, none⟩ = some (.int .u64 r.lost) := by simp [World.cell?, hb3]
      have hf3 : W3.frozen? ⟨bt, 2, none⟩ = false := by simp [World.frozen?, hb3]
      have hs2 := HS2.out
      have hbtw := HBT.out
      have hne10 : ∀ k, (Value.slice a10 q c10).ownBlock = some k → w.heap.size < k := fun k hk => by have := hI.o10 k hk; omega
      have hne11 : ∀ k, (Value.slice a11 l11 c11).ownBlock = some k → w.heap.size < k := fun k hk => by have := hI.o11 k hk; omega
      have hleft : r.items.take i = r.items := by rw [him', HM.out, List.take_length]
      have hlf := hI.left
      rw [hleft] at hlf
      have hcw3 : Chg (fun _ => False) w W3 := (HC2.out.trans (hI.chg.mono fun _ _ h => h.elim)).trans (c3.mono fun k _ h => .inr (by omega))
      have hout3 : Sl W3 80 35 (.slice a10 q c10) ((r.items.take q).map It.cells) := hI.out.chg c3 fun k hk e => by have := hne10 k hk; omega
      have hleft3 : Sl W3 80 35 (.slice a11 l11 c11) ((r.items.drop N).map It.cells) := hlf.chg c3 fun k hk e => by have := hne11 k hk; omega
      have hlen16 : (r.items.drop N).length ≤ 16 := by rw [List.length_drop, ← HM.out]; omega
      have hxb : xb < w.heap.size := lt_of_at H.out.cell
      have hls : ∀ (A B : List RRow) (r : RRow), (A ++ r :: B).map RRow.cells = A.map RRow.cells ++ r.cells :: B.map RRow.cells := fun A B r => by simp
      by_cases hgap : 0 < r.lost ∧ (q : Int) < n
      · obtain ⟨hg1, hg2⟩ := hgap
        have hmn : (m : Int) < n := by have := HN.out; omega
        have hqm : q = m := by have := HN.out; omega
        have hto : r.items.take q = r.items := by rw [hqm, HM.out, List.take_length]
        rw [hto] at hout3
        have ht : takeI (r.items, r.lost) n = (r.items ++ [gap r.lost], ([], 0)) := by
          unfold takeI
          rw [if_pos ⟨by rw [← HM.out]; exact hmn, hg1⟩]
        have htl : r.items.drop N = [] := List.drop_of_length_le (by rw [← HM.out]; have := HN.out; omega)
        rw [htl] at hleft3
        have hbg : (Instr.build 80 #[(1, .int .u64 r.lost)]).run Try.prog W3 = .ok (.agg (gap r.lost).cells.toArray) W3 := build80g r.lost W3
        obtain ⟨W4, hW4⟩ : ∃ W4, W4 = W3.alloc (.cells (([gap r.lost].map It.cells).flatten).toArray 80) := ⟨_, rfl⟩
        have hbs : (Instr.buildSlice 58 1 #[(0, .agg (gap r.lost).cells.toArray)]).run Try.prog W3 = .ok (.slice (some ⟨W3.heap.size, 0, none⟩) 1 1) W4 := by
          have := bs58 (gap r.lost) W3
          rw [hW4]; simpa using this
        obtain ⟨v5, W5, hap, hsl5, c5, how5⟩ := rmore hout3 [gap r.lost] (by rw [← HM.out]; simp; omega) (by simp) 1 rfl
        rw [← hW4] at hap
        obtain ⟨a5, l5, hv5⟩ := hsl5.shape
        obtain ⟨m5, hm5⟩ : ∃ m5, m5 = ((r.items ++ [gap r.lost]).map It.cells).length := ⟨_, rfl⟩
        rw [← hm5] at hv5
        subst hv5
        have hb5 : W5.heap[bt]? = some (.cells #[.int .u64 r.id, .slice a11 l11 c11, .int .u64 r.lost] 66) := c5.at hb3 fun h => by have := hne10 _ h; omega
        obtain ⟨W6, hW6⟩ : ∃ W6, W6 = W5.setCell ⟨bt, 2, none⟩ (.int .u64 0) := ⟨_, rfl⟩
        have hst6 : (Instr.storeAt 25 (.pointer (some ⟨bt, 2, none⟩)) (.int .u64 0)).run Try.prog W5 = .ok () W6 := by
          rw [hW6]; exact Ex.store1 (by kernel_rfl) rfl rfl (u := .int .u64 r.lost) (by simp [World.cell?, hb5]) (by simp [World.frozen?, hb5])
        have hl5 : W5.cell? ⟨bt, 2, none⟩ = some (.int .u64 r.lost) := by simp [World.cell?, hb5]
        have c6 : Chg (fun k => k = bt) W5 W6 := by rw [hW6]; exact (Chg.refl (fun k => k = bt) W5).setCell (.inl rfl) _
        have hb6 : W6.heap[bt]? = some (.cells #[.int .u64 r.id, .slice a11 l11 c11, .int .u64 0] 66) := by
          rw [hW6]
          simp only [World.setCell, Array.getElem?_modify, hb5]
          simp
        obtain ⟨W0, hW0⟩ : ∃ W0, W0 = W6.drew := ⟨_, rfl⟩
        obtain ⟨r2, hr2⟩ : ∃ r2 : RRow, r2 = ⟨r.id, .slice a11 l11 c11, [], 0⟩ := ⟨_, rfl⟩
        have hb0 : W0.heap[bt]? = some (.cells r2.cells.toArray 66) := by rw [hW0, hr2]; exact hb6
        have hn5 : ∀ k, (Value.slice a5 m5 l5).ownBlock = some k → w.heap.size < k := fun k hk => by
          rcases how5 k hk with h | h
          · exact hne10 k h
          · have h1 := hI.chg.size
            have h2 := c3.size
            omega
        have hcw0 : Chg (fun _ => False) w W0 := by rw [hW0]; exact (((hcw3.trans (c5.mono fun k _ h => .inr (Nat.le_of_lt (hne10 k h)))).trans (c6.mono fun k _ h => .inr (by omega)))).drew
        have hout0 : Sl W0 80 35 (.slice a5 m5 l5) ((takeI (r.items, r.lost) n).1.map It.cells) := by
          rw [ht, hW0]; exact (hsl5.chg c6 fun k hk e => by have := hn5 k hk; omega).chg ((Chg.refl (fun _ => False) W6).drew) fun _ _ h => h
        have hleft0 : Sl W0 80 35 (.slice a11 l11 c11) (([] : List It).map It.cells) := by
          rw [hW0]; exact ((hleft3.chg c5 fun k hk h => hI.apart k h hk).chg c6 fun k hk e => by have := hne11 k hk; omega).chg ((Chg.refl (fun _ => False) W6).drew) fun _ _ h => h
        have hsl0 : Sl W0 66 3 (.slice (some ⟨g, o, none⟩) L c) ((A ++ r :: B).map RRow.cells) := H.out.sl.chg hcw0 fun _ _ h => h
        rw [hls] at hsl0
        obtain ⟨W9, hst9, hsl9, hc9⟩ := Sl.setE (P := Try.prog) hsl0 (y := r2.cells) rfl (by rw [hr2]; exact one_row hleft0) 66 (by kernel_rfl)
        rw [List.length_map] at hst9
        have HT : Hid (RTook w xb last (.slice (some ⟨g, o, none⟩) L c) A B r n (.slice a5 m5 l5) W9) :=
          rtook_done H.out hcw0 hout0 hleft0 (fun k hk => Nat.le_of_lt (hn5 k hk)) (fun k hk => Nat.le_of_lt (hne11 k hk)) (by rw [ht]) (by simp) (by rw [hls]; rw [← hr2]; exact hsl9) hc9
        have hl0 : (Instr.loadAt 51 (.pointer (some ⟨xb, 0, none⟩))).run Try.prog W0 = .ok (.slice (some ⟨g, o, none⟩) L c) W0 := Ex.load1 Try.underlying51 rfl (by have := hcw0.at H.out.cell id; simp [World.cell?, this])
        have hi0 := index51 W0 g o L c A.length hjL
        have hlR : (Instr.loadAt 66 (.pointer (some ⟨bt, 0, none⟩))).run Try.prog W0 = .ok (.agg r2.cells.toArray) W0 := load66 (r := r2) fun j u hj => by
          simp only [World.cell?, hb0, Nat.zero_add]; simpa using hj
        have HW0 : Hid (W0 = W6.drew) := hW0
        clear hI c3 hleft hlf hcw3 hout3 hleft3 hlen16 hls hmn hqm hto ht htl hW4 hsl5 c5 how5 hm5 hb5 hW6 c6 hb6 hW0 hr2 hb0 hn5 hcw0 hout0 hleft0 hsl0 hsl9 hc9 hne10 hne11 hb2 hb3 hW3 hs2 hbtw hxb him' hq hcs hc0
        go_wp2_with (first
          | ((with_reducible refine Step.wpList_op (.store 58 (.tmp 53) (.tmp 52)) rfl ?_); refine Step.wpList_skip1 rfl W3 (Ex.store rfl hst3) ?_)
          | ((with_reducible refine Step.wpList_op (.build 80 #[(1, .tmp 65)]) rfl ?_); refine Step.wpList_run rfl (.agg (gap r.lost).cells.toArray) W3 (Ex.build1 rfl hbg) ?_)
          | ((with_reducible refine Step.wpList_op (.buildSlice 58 1 #[(0, .tmp 66)]) rfl ?_); refine Step.wpList_run rfl _ W4 (Ex.buildSlice1 rfl hbs) ?_)
          | ((with_reducible refine Step.wpList_op (.call { callee := .builtin .append, args := #[.tmp 63, .tmp 67], argTypes := #[58, 58] }) rfl ?_); refine Step.wpList_run rfl _ W5 (Ex.append (t := 58) rfl hap) ?_)
          | ((with_reducible refine Step.wpList_op (.store 25 (.tmp 69) (.const (.int .u64 0))) rfl ?_); refine Step.wpList_skip1 rfl W6 (Ex.store rfl hst6) ?_))
        refine Go.Drawn.wp_region_chain [[], [0], [0, 1], [0, 1, 2], [], [], [0, 1, 2, 3, 4, 5], [0, 1, 2, 3, 4, 5, 6]] [.pointer (some ⟨xb, 0, none⟩), .pointer (some ⟨xb, 0, none⟩), .pointer (some ⟨xb, 0, none⟩), .slice (some ⟨g, o, none⟩) L c, .int .i64 A.length, .agg r2.cells.toArray, .pointer (some ⟨g, o + A.length * 3, none⟩), undef] (fun k => ([W0, W9] : List World).getD k (W0)) [7] [[0], [0], [0], [0], [0], [0], [0], [0]] (by kernel_rfl) (by kernel_rfl) (by kernel_rfl) (by kernel_rfl) (by kernel_rfl) (by kernel_rfl) ?_ ?_ ?_
        · exact HW0.out
        · exact ⟨⟨(.val (by kernel_rfl) (by kernel_rfl)), trivial⟩,
      ⟨(.val (by kernel_rfl) (by kernel_rfl)), trivial⟩,
      ⟨(.val (by kernel_rfl) (by kernel_rfl)), trivial⟩,
      ⟨(.val (by kernel_rfl) (Ex.load rfl hl0)), trivial⟩,
      ⟨(.val (by kernel_rfl) (by kernel_rfl)), trivial⟩,
      ⟨(.val (by kernel_rfl) (Ex.load rfl hlR)), trivial⟩,
      ⟨(.val (by kernel_rfl) (Ex.indexAddr rfl hi0)), trivial⟩,
      ⟨(.skip (by kernel_rfl) (Ex.store rfl hst9) rfl), trivial⟩,
      trivial⟩
        simp only [Go.Drawn.putAll, Act.put, List.getD_cons_zero, List.getD_cons_succ, List.setIfInBounds_toArray, List.set_cons_zero, List.set_cons_succ, List.length_cons, List.length_nil, Nat.reduceAdd]
        clear hl0 hi0 hlR hst9
        go_wp2_with fail
        go_ret2
        exact ⟨_, rfl, HT.out⟩
      · have ht : takeI (r.items, r.lost) n = (r.items.take q, (r.items.drop N, r.lost)) := by
          have hN := HN.out
          unfold takeI
          rw [if_neg (by simp only [← HM.out]; intro hh; exact hgap ⟨hh.2, by omega⟩), ← hN]
          have e1 : r.items.take N = r.items.take q := by
            rcases Nat.le_total N m with hh | hh
            · rw [show q = N by omega]
            · rw [show q = m by omega, List.take_of_length_le (by rw [← HM.out]; exact hh), HM.out, List.take_length]
          rw [e1]
        obtain ⟨W0, hW0⟩ : ∃ W0, W0 = W3.drew := ⟨_, rfl⟩
        obtain ⟨r2, hr2⟩ : ∃ r2 : RRow, r2 = ⟨r.id, .slice a11 l11 c11, r.items.drop N, r.lost⟩ := ⟨_, rfl⟩
        have hb0 : W0.heap[bt]? = some (.cells r2.cells.toArray 66) := by rw [hW0, hr2]; exact hb3
        have hcw0 : Chg (fun _ => False) w W0 := by rw [hW0]; exact hcw3.drew
        have hout0 : Sl W0 80 35 (.slice a10 q c10) ((takeI (r.items, r.lost) n).1.map It.cells) := by
          rw [ht, hW0]; exact hout3.chg ((Chg.refl (fun _ => False) W3).drew) fun _ _ h => h
        have hleft0 : Sl W0 80 35 (.slice a11 l11 c11) ((r.items.drop N).map It.cells) := by
          rw [hW0]; exact hleft3.chg ((Chg.refl (fun _ => False) W3).drew) fun _ _ h => h
        have hsl0 : Sl W0 66 3 (.slice (some ⟨g, o, none⟩) L c) ((A ++ r :: B).map RRow.cells) := H.out.sl.chg hcw0 fun _ _ h => h
        rw [hls] at hsl0
        obtain ⟨W9, hst9, hsl9, hc9⟩ := Sl.setE (P := Try.prog) hsl0 (y := r2.cells) rfl (by rw [hr2]; exact one_row hleft0) 66 (by kernel_rfl)
        rw [List.length_map] at hst9
        have HT : Hid (RTook w xb last (.slice (some ⟨g, o, none⟩) L c) A B r n (.slice a10 q c10) W9) :=
          rtook_done H.out hcw0 hout0 hleft0 (fun k hk => Nat.le_of_lt (hne10 k hk)) (fun k hk => Nat.le_of_lt (hne11 k hk)) (by rw [ht]) hlen16 (by rw [hls]; rw [← hr2]; exact hsl9) hc9
        have hl0 : (Instr.loadAt 51 (.pointer (some ⟨xb, 0, none⟩))).run Try.prog W0 = .ok (.slice (some ⟨g, o, none⟩) L c) W0 := Ex.load1 Try.underlying51 rfl (by have := hcw0.at H.out.cell id; simp [World.cell?, this])
        have hi0 := index51 W0 g o L c A.length hjL
        have hlR : (Instr.loadAt 66 (.pointer (some ⟨bt, 0, none⟩))).run Try.prog W0 = .ok (.agg r2.cells.toArray) W0 := load66 (r := r2) fun j u hj => by
          simp only [World.cell?, hb0, Nat.zero_add]; simpa using hj
        have HW0 : Hid (W0 = W3.drew) := hW0
        clear hI c3 hleft hlf hcw3 hout3 hleft3 hlen16 hls ht hW0 hr2 hb0 hcw0 hout0 hleft0 hsl0 hsl9 hc9 hne10 hne11 hb2 hb3 hW3 hs2 hbtw hxb him' hq hcs hc0
        by_cases hg1 : 0 < r.lost
        · have hg2 : ¬ (q : Int) < n := fun hh => hgap ⟨hg1, hh⟩
          clear hgap
          go_wp2_with ((with_reducible refine Step.wpList_op (.store 58 (.tmp 53) (.tmp 52)) rfl ?_); refine Step.wpList_skip1 rfl W3 (Ex.store rfl hst3) ?_)
          refine Go.Drawn.wp_region_chain [[], [0], [0, 1], [0, 1, 2], [], [], [0, 1, 2, 3, 4, 5], [0, 1, 2, 3, 4, 5, 6]] [.pointer (some ⟨xb, 0, none⟩), .pointer (some ⟨xb, 0, none⟩), .pointer (some ⟨xb, 0, none⟩), .slice (some ⟨g, o, none⟩) L c, .int .i64 A.length, .agg r2.cells.toArray, .pointer (some ⟨g, o + A.length * 3, none⟩), undef] (fun k => ([W0, W9] : List World).getD k (W0)) [7] [[0], [0], [0], [0], [0], [0], [0], [0]] (by kernel_rfl) (by kernel_rfl) (by kernel_rfl) (by kernel_rfl) (by kernel_rfl) (by kernel_rfl) ?_ ?_ ?_
          · exact HW0.out
          · exact ⟨⟨(.val (by kernel_rfl) (by kernel_rfl)), trivial⟩,
      ⟨(.val (by kernel_rfl) (by kernel_rfl)), trivial⟩,
      ⟨(.val (by kernel_rfl) (by kernel_rfl)), trivial⟩,
      ⟨(.val (by kernel_rfl) (Ex.load rfl hl0)), trivial⟩,
      ⟨(.val (by kernel_rfl) (by kernel_rfl)), trivial⟩,
      ⟨(.val (by kernel_rfl) (Ex.load rfl hlR)), trivial⟩,
      ⟨(.val (by kernel_rfl) (Ex.indexAddr rfl hi0)), trivial⟩,
      ⟨(.skip (by kernel_rfl) (Ex.store rfl hst9) rfl), trivial⟩,
      trivial⟩
          simp only [Go.Drawn.putAll, Act.put, List.getD_cons_zero, List.getD_cons_succ, List.setIfInBounds_toArray, List.set_cons_zero, List.set_cons_succ, List.length_cons, List.length_nil, Nat.reduceAdd]
          clear hl0 hi0 hlR hst9
          go_wp2_with fail
          go_ret2
          exact ⟨_, rfl, HT.out⟩
        · clear hgap
          go_wp2_with ((with_reducible refine Step.wpList_op (.store 58 (.tmp 53) (.tmp 52)) rfl ?_); refine Step.wpList_skip1 rfl W3 (Ex.store rfl hst3) ?_)
          refine Go.Drawn.wp_region_chain [[], [0], [0, 1], [0, 1, 2], [], [], [0, 1, 2, 3, 4, 5], [0, 1, 2, 3, 4, 5, 6]] [.pointer (some ⟨xb, 0, none⟩), .pointer (some ⟨xb, 0, none⟩), .pointer (some ⟨xb, 0, none⟩), .slice (some ⟨g, o, none⟩) L c, .int .i64 A.length, .agg r2.cells.toArray, .pointer (some ⟨g, o + A.length * 3, none⟩), undef] (fun k => ([W0, W9] : List World).getD k (W0)) [7] [[0], [0], [0], [0], [0], [0], [0], [0]] (by kernel_rfl) (by kernel_rfl) (by kernel_rfl) (by kernel_rfl) (by kernel_rfl) (by kernel_rfl) ?_ ?_ ?_
          · exact HW0.out
          · exact ⟨⟨(.val (by kernel_rfl) (by kernel_rfl)), trivial⟩,
      ⟨(.val (by kernel_rfl) (by kernel_rfl)), trivial⟩,
      ⟨(.val (by kernel_rfl) (by kernel_rfl)), trivial⟩,
      ⟨(.val (by kernel_rfl) (Ex.load rfl hl0)), trivial⟩,
      ⟨(.val (by kernel_rfl) (by kernel_rfl)), trivial⟩,
      ⟨(.val (by kernel_rfl) (Ex.load rfl hlR)), trivial⟩,
      ⟨(.val (by kernel_rfl) (Ex.indexAddr rfl hi0)), trivial⟩,
      ⟨(.skip (by kernel_rfl) (Ex.store rfl hst9) rfl), trivial⟩,
      trivial⟩
          simp only [Go.Drawn.putAll, Act.put, List.getD_cons_zero, List.getD_cons_succ, List.setIfInBounds_toArray, List.set_cons_zero, List.set_cons_succ, List.length_cons, List.length_nil, Nat.reduceAdd]
          clear hl0 hi0 hlR hst9
          go_wp2_with fail
          go_ret2
          exact ⟨_, rfl, HT.out⟩

set_option maxRecDepth 100000 in
set_option maxHeartbeats 2000000 in
theorem rtake_out (xb last : Nat) (sv : Value) (rows : List RRow) (x : Nat) (n : Int) (w : World) (h : RefRows w xb last sv rows) (hx : ∀ r ∈ rows, r.id ≠ x) :
    Calls Try.prog 21 #[.pointer (some ⟨xb, 0, none⟩), .int .u64 x, .int .i64 n] w fun e w' => e = .returned (.tuple #[.slice none 0 0, .int .i64 4]) ∧ w' = w := by
  have hfind := find_out h hx
  clear h hx
  go_enter Try.func21, Try.ntmps21
  go_wp2_with fail
  refine hfind.mono ?_
  rintro e w9 ⟨rfl, hw9⟩
  rw [hw9]
  clear hw9 w9 hfind
  go_wp2_with fail
  go_ret2
  exact ⟨rfl, rfl⟩

theorem rtake_is {w : World} {p : Value} {F : Nat × List AR} {S : Nat → Prop} (h : IsRef w p F S) (a : AR) (ha : a ∈ F.2) (n : Int) :
    Calls Try.prog 21 #[p, .int .u64 a.1, .int .i64 n] w fun e w' => ∃ v, e = .returned (.tuple #[v, .int .i64 0]) ∧ Sl w' 80 35 v ((takeI a.2 n).1.map It.cells) ∧ (∀ k, v.ownBlock = some k → w.heap.size ≤ k) ∧ ∃ S', IsRef w' p (F.1, F.2.map (takeA a.1 n)) S' ∧ (∀ k, S' k → S k ∨ w.heap.size ≤ k) ∧ Chg S w w' := by
  obtain ⟨xb, sv, rows, rfl, hf, hF, hS⟩ := h
  rw [← hF] at ha
  obtain ⟨r, hr, rfl⟩ := List.mem_map.1 ha
  obtain ⟨A, B, rfl⟩ := rrow_split hr
  refine (rtake_walk xb F.1 sv A B r n w hf).mono ?_
  rintro e w' ⟨v, rfl, hT⟩
  obtain ⟨sv2, hsv, hfd⟩ := hT.feed
  refine ⟨v, rfl, hT.sl, hT.new, _, ⟨xb, sv, _, rfl, hfd, ?_, fun _ => Iff.rfl⟩, fun k hk => ?_, hT.chg.mono fun k _ h => (hS k).2 (.inr (.inl h))⟩
  · rw [← hF]
    have hi := List.pairwise_append.1 hf.ids
    have hi2 := List.pairwise_cons.1 hi.2.1
    have hne : ∀ s ∈ A ++ B, takeA r.id n (absRR s) = absRR s := fun s hs => by
      unfold takeA
      rw [if_neg]
      show ¬ s.id = r.id
      rcases List.mem_append.1 hs with hs | hs
      · have := hi.2.2 s hs r (by simp); omega
      · have := hi2.1 s hs; omega
    simp only [List.map_append, List.map_cons, List.map_map]
    congr 1
    · exact List.map_congr_left fun s hs => (hne s (List.mem_append.2 (.inl hs))).symm
    · congr 1
      · show _ = takeA r.id n (absRR r)
        unfold takeA
        rw [if_pos (show (absRR r).1 = r.id from rfl)]
        rfl
      · exact List.map_congr_left fun s hs => (hne s (List.mem_append.2 (.inr hs))).symm
  · rcases RFoot_turn (s := w.heap.size) (r := r) (fun k hk => .inr (hsv k hk)) hk with h | h
    · exact .inl ((hS k).2 h)
    · exact .inr h
theorem rtake_no {w : World} {p : Value} {F : Nat × List AR} {S : Nat → Prop} (h : IsRef w p F S) (x : Nat) (hn : ∀ a ∈ F.2, a.1 ≠ x) (n : Int) :
    Calls Try.prog 21 #[p, .int .u64 x, .int .i64 n] w fun e w' => e = .returned (.tuple #[.slice none 0 0, .int .i64 4]) ∧ w' = w := by
  obtain ⟨xb, sv, rows, rfl, hf, hF, hS⟩ := h
  exact rtake_out xb F.1 sv rows x n w hf fun r hr => hn _ (by rw [← hF]; exact List.mem_map.2 ⟨r, hr, rfl⟩)
end Go.Proofs.Ytdljloohgidbfaa
