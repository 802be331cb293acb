/-
  Events and items as the document's.
-/
import Derived.Test.YtdljloohgidbfaaRefTake
import Derived.Test.YtdljloohgidbfaaFeedSame
namespace Go.Proofs.Ytdljloohgidbfaa
open Go Go.RowKit Go.Mem

def keyC (b : Int) : List Value := [.int .u8 b, .int .u8 0, .int .u8 0, .int .u8 0, .int .u8 0, .int .u8 0, .int .u8 0, .int .u8 0, .int .u8 0, .int .u8 0, .int .u8 0, .int .u8 0, .int .u8 0, .int .u8 0, .int .u8 0, .int .u8 0, .int .u8 0, .int .u8 0, .int .u8 0, .int .u8 0, .int .u8 0, .int .u8 0, .int .u8 0, .int .u8 0, .int .u8 0, .int .u8 0, .int .u8 0, .int .u8 0, .int .u8 0, .int .u8 0, .int .u8 0, .int .u8 0]
def It.ev (x : It) : Ev := ⟨x.a, x.b, x.v⟩
theorem bs56 (x : Ev) (w : World) : (Instr.buildSlice 56 1 #[(0, .agg x.cells.toArray)]).run Try.prog w = .ok (.slice (some ⟨w.heap.size, 0, none⟩) 1 1) (w.alloc (.cells x.cells.toArray 78)) := by
  obtain ⟨ie, hi, hz, hs, _⟩ := info78
  refine run_buildSlice w 56 78 1 _ _ ie _ Try.underlying56 hi hz (by rw [hs]; decide) (by rw [hs]; decide) ?_
  rw [hs]
  kernel_rfl
theorem bs58' (x : It) (w : World) : (Instr.buildSlice 58 1 #[(0, .agg x.cells.toArray)]).run Try.prog w = .ok (.slice (some ⟨w.heap.size, 0, none⟩) 1 1) (w.alloc (.cells x.cells.toArray 80)) := bs58 x w
theorem build78 (a b v : Int) (w : World) : (Instr.build 78 #[(0, .int .i64 a), (1, .agg (keyC b).toArray), (2, .int .u64 v)]).run Try.prog w = .ok (.agg (evC a b v).toArray) w := run_build w 78 _ _ (by kernel_rfl)
theorem build80x (x : It) (w : World) : (Instr.build 80 #[(0, .agg x.ev.cells.toArray), (1, .int .u64 x.l)]).run Try.prog w = .ok (.agg x.cells.toArray) w := run_build w 80 _ _ (by kernel_rfl)
theorem infoEv : ∃ i, Try.prog.info? 38 = some i ∧ i.size = 34 := by
  have h : (Try.prog.info? 38).map (fun i => i.size) = some 34 := by kernel_rfl
  cases hq : Try.prog.info? 38 with
  | none => rw [hq] at h; cases h
  | some i0 => rw [hq] at h; simp at h; exact ⟨i0, rfl, h⟩
theorem index30 (w : World) (g o n c j : Nat) (h : j < n) : (Instr.indexAt 30 (.slice (some ⟨g, o, none⟩) n c) (.int .i64 j)).run Try.prog w = .ok (.pointer (some ⟨g, o + j * 34, none⟩)) w := by
  obtain ⟨i, hi, hz⟩ := infoEv
  exact Ex.index_sl Try.underlying30 hi hz w g o n c j .i64 h
theorem key_range {w : World} {g o : Nat} {x : Ev} (h : w.rangeAt g o x.cells) : w.rangeAt g (o + 1) (keyC x.b) := fun j u hj => by
  have h1 := h (j + 1) u (by
    have hl : j < 32 := (List.getElem?_eq_some_iff.1 hj).1
    show (evC x.a x.b x.v)[j + 1]? = some u
    have : evC x.a x.b x.v = .int .i64 x.a :: (keyC x.b ++ [.int .u64 x.v]) := rfl
    rw [this, List.getElem?_cons_succ, List.getElem?_append_left hl]; exact hj)
  rw [show o + (j + 1) = o + 1 + j by omega] at h1
  exact h1
theorem load36 {w : World} {g o : Nat} {x : Ev} (h : w.rangeAt g o x.cells) : (Instr.loadAt 36 (.pointer (some ⟨g, o + 1, none⟩))).run Try.prog w = .ok (.agg (keyC x.b).toArray) w :=
  run_loadAt_mid w g (o + 1) 36 (keyC x.b) _ (key_range h) Try.underlying36 rfl (by kernel_rfl)
theorem ev_range {w : World} {g o : Nat} {x : It} (h : w.rangeAt g o x.cells) : w.rangeAt g o x.ev.cells ∧ w.cell? ⟨g, o + 34, none⟩ = some (.int .u64 x.l) := by
  refine ⟨fun j u hj => h j u ?_, h 34 _ rfl⟩
  have hl : j < 34 := (List.getElem?_eq_some_iff.1 hj).1
  have : x.cells = x.ev.cells ++ [.int .u64 x.l] := rfl
  rw [this, List.getElem?_append_left hl]; exact hj
theorem storeT {w : World} {g : Nat} {t : TypeId} {cur : Array Value} (hg : w.heap[g]? = some (.cells cur t (0, 0))) (y : List Value) (hc : cur.size = y.length) (hi : (Try.prog.info? t).map (·.size) = some y.length) (h1 : ∀ u ∈ y, u.oneCell' = true) :
    ∃ w', (Instr.storeAt t (.pointer (some ⟨g, 0, none⟩)) (.agg y.toArray)).run Try.prog w = .ok () w' ∧ w'.heap[g]? = some (.cells y.toArray t) ∧ Chg (fun k => k = g) w w' := by
  have h := run_store_row (P := Try.prog) w g 0 t t cur y hg (by omega) hi h1
  refine ⟨_, h, ?_, ⟨rfl, rfl, rfl, by simp, fun k _ hk => setRow_other w g k _ hk⟩⟩
  rw [setRow_heap w g cur _ t _ hg]
  have : (cur.toList.take 0 ++ y ++ cur.toList.drop (0 + y.length)).toArray = y.toArray := by
    rw [List.drop_of_length_le (by simp; omega)]
    simp
  rw [this]

set_option maxRecDepth 100000 in
set_option maxHeartbeats 4000000 in
/-- events, of the laws -/
theorem revents_any (v : Value) (xs : List Ev) (w : World) (h : Sl w 38 34 v (xs.map Ev.cells)) (hx : xs.length ≤ 1000) :
    Calls Try.prog 20 #[v] w fun e w' => ∃ v', e = .returned v' ∧ Sl w' 78 34 v' (xs.map Ev.cells) ∧ (∀ k, v'.ownBlock = some k → w.heap.size ≤ k) ∧ Chg (fun _ => False) w w' := by
  obtain ⟨n, hn⟩ : ∃ n, n = xs.length := ⟨_, rfl⟩
  obtain ⟨a, c, rfl, _⟩ := Sl.shape2 h
  rw [List.length_map, ← hn] at h ⊢
  have H : Hid (Sl w 38 34 (.slice a n c) (xs.map Ev.cells)) := h
  have HN : Hid (n = xs.length) := hn
  have hn1 : n ≤ 1000 := by omega
  clear h hn hx
  go_enter Try.func20, Try.ntmps20
  go_wp2_with fail
  go_loopw [3, 4] (fun v i wr => ∃ (k : Nat) (a3 : Option Addr) (c3 : Nat), k ≤ n ∧ i = .int .i64 k ∧ v = .slice a3 k c3 ∧ Sl wr 78 34 (.slice a3 k c3) ((xs.take k).map Ev.cells) ∧ Chg (fun _ => False) w wr ∧ ∀ q, (Value.slice a3 k c3).ownBlock = some q → w.heap.size ≤ q) (fun _ i _ => n - (intOf i).toNat)
  case atStart => exact ⟨0, none, 0, Nat.zero_le _, rfl, rfl, Sl.nil _ _ _, Chg.refl _ _, fun q hq => by simp [Value.ownBlock] at hq⟩
  case round =>
    obtain ⟨k, a3, c3, hk, rfl, rfl, hsl, hch, hnew⟩ := hrel
    have HSL : Hid (Sl wr 78 34 (.slice a3 k c3) ((xs.take k).map Ev.cells)) := hsl
    have HC : Hid (Chg (fun _ => False) w wr) := hch
    have HNEW : Hid (∀ q, (Value.slice a3 k c3).ownBlock = some q → w.heap.size ≤ q) := hnew
    clear hsl hch hnew
    by_cases hkn : k < n
    · obtain ⟨x, hx⟩ : ∃ x, xs[k]? = some x := ⟨_, List.getElem?_eq_getElem (by rw [← HN.out]; exact hkn)⟩
      obtain ⟨g, o, c', hva, hra⟩ := (H.out.chg HC.out fun _ _ h => h).at (i := k) (x := x.cells) (by rw [List.getElem?_map, hx]; rfl)
      have ea : a = some ⟨g, o, none⟩ := (Value.slice.inj hva).1
      subst ea
      clear hva
      have HSLB := HSL.out
      have HCB := HC.out
      obtain ⟨W0, hW0⟩ : ∃ W0, W0 = wr.drew := ⟨_, rfl⟩
      obtain ⟨hs, hhs⟩ : ∃ hs, hs = W0.heap.size := ⟨_, rfl⟩
      obtain ⟨W1, hW1⟩ : ∃ W1, W1 = W0.alloc (.cells x.cells.toArray 78) := ⟨_, rfl⟩
      have hsW0 : Sl W0 78 34 (.slice a3 k c3) ((xs.take k).map Ev.cells) := by rw [hW0]; exact HSLB.chg ((Chg.refl (fun _ => False) _).drew) fun _ _ h => h
      have hsW1 : Sl W1 78 34 (.slice a3 k c3) ((xs.take k).map Ev.cells) := by rw [hW1]; exact hsW0.chg ((Chg.refl (fun _ => False) _).alloc _) fun _ _ h => h
      have hbs : (Instr.buildSlice 56 1 #[(0, .agg x.cells.toArray)]).run Try.prog W0 = .ok (.slice (some ⟨hs, 0, none⟩) 1 1) W1 := by rw [hW1, hhs]; exact bs56 x W0
      obtain ⟨ie, hi, hz, hsz, hby⟩ := info78
      have hln : ((xs.take k).map Ev.cells).length = k := by rw [List.length_map, List.length_take, ← HN.out]; omega
      obtain ⟨v4, W2, hap, hsl4, cA, how, _⟩ := Sl.append (P := Try.prog) 56 56 Try.underlying56 hi hz hsz hby rfl hsW1 ⟨hs, 0, none⟩ 1 [x.cells] (fun y hy => by rw [List.mem_singleton.1 hy]; rfl)
        (fun j u hj => by
          rw [Addr.add_mid, Nat.zero_add, hW1, hhs]
          simp only [World.cell?, heap_alloc_new]
          simpa using hj)
        (fun y hy => by rw [List.mem_singleton.1 hy]; exact (fun u hu => (List.all_eq_true.1 (show (x.cells.all (·.oneCell')) = true from rfl)) u hu))
        (by simp) (by rw [hln]; simp only [List.length_singleton]; unfold maxLen; omega) (by rw [hln]; simp only [List.length_singleton]; omega)
      obtain ⟨a4, c4, hv4⟩ := hsl4.shape
      rw [show ((xs.take k).map Ev.cells ++ [x.cells]).length = k + 1 by rw [List.length_append, hln]; rfl] at hv4
      subst hv4
      have cW1 : Chg (fun _ => False) w W1 := by rw [hW1, hW0]; exact (HCB.drew).alloc _
      have HTK : Hid ((xs.take (k + 1)).map Ev.cells = (xs.take k).map Ev.cells ++ [x.cells]) := by unfold Hid; rw [List.take_add_one, hx]; simp
      have HS2 : Hid (Sl W2 78 34 (.slice a4 (k + 1) c4) ((xs.take k).map Ev.cells ++ [x.cells])) := hsl4
      have HC2 : Hid (Chg (fun _ => False) w W2) := cW1.trans (cA.mono fun q _ h => .inr (HNEW.out q h))
      have HN2 : Hid (∀ q, (Value.slice a4 (k + 1) c4).ownBlock = some q → w.heap.size ≤ q) := fun q hq => by
        rcases how with ho | ho
        · exact HNEW.out q (by rw [← ho]; exact hq)
        · rw [ho] at hq; cases hq; exact cW1.size
      have HW0 : Hid (W0 = wr.drew) := hW0
      have hra0 : W0.rangeAt g (o + k * 34) x.cells := by rw [hW0]; exact hra
      have hix := index30 W0 g o n c k hkn
      have hl0 : (Instr.loadAt 3 (.pointer (some ⟨g, o + k * 34, none⟩))).run Try.prog W0 = .ok (.int .i64 x.a) W0 := Ex.load1 Try.underlying3 rfl (by have := hra0 0 _ rfl; simpa using this)
      have hl1 := load36 hra0
      have hl2 : (Instr.loadAt 25 (.pointer (some ⟨g, o + k * 34 + 33, none⟩))).run Try.prog W0 = .ok (.int .u64 x.v) W0 := Ex.load1 Try.underlying25 rfl (hra0 33 _ rfl)
      have hbd : (Instr.build 78 #[(0, .int .i64 x.a), (1, .agg (keyC x.b).toArray), (2, .int .u64 x.v)]).run Try.prog W0 = .ok (.agg x.cells.toArray) W0 := build78 x.a x.b x.v W0
      clear hra hra0 hW0 hhs hW1 hsW0 hsW1 hi hz hsz hby hln hsl4 cA how cW1 hx HSLB HCB
      go_wp2_with fail
      refine Go.Drawn.wp_region_chain [[], [], [], [1, 2], [1, 2, 3], [1, 2, 3, 4], [], [], [6, 7], [6, 7, 8], [6, 7, 8, 9], [], [], [11, 12], [11, 12, 13], [11, 12, 13, 14], [1, 2, 3, 4, 5, 6, 7, 8, 9, 10, 11, 12, 13, 14, 15], [1, 2, 3, 4, 5, 6, 7, 8, 9, 10, 11, 12, 13, 14, 15, 16], [0, 1, 2, 3, 4, 5, 6, 7, 8, 9, 10, 11, 12, 13, 14, 15, 16, 17], [0, 1, 2, 3, 4, 5, 6, 7, 8, 9, 10, 11, 12, 13, 14, 15, 16, 17, 18]] [.slice a3 k c3, .slice (some ⟨g, o, none⟩) n c, .int .i64 k, .pointer (some ⟨g, o + k * 34, none⟩), .pointer (some ⟨g, o + k * 34, none⟩), .int .i64 x.a, .slice (some ⟨g, o, none⟩) n c, .int .i64 k, .pointer (some ⟨g, o + k * 34, none⟩), .pointer (some ⟨g, o + k * 34 + 1, none⟩), .agg (keyC x.b).toArray, .slice (some ⟨g, o, none⟩) n c, .int .i64 k, .pointer (some ⟨g, o + k * 34, none⟩), .pointer (some ⟨g, o + k * 34 + 33, none⟩), .int .u64 x.v, .agg x.cells.toArray, .slice (some ⟨hs, 0, none⟩) 1 1, .slice a4 (k + 1) c4, .slice a4 (k + 1) c4] (fun k => ([W0, W1, W2] : List World).getD k (W0)) [17, 18] [[0, 1], [0], [0], [0], [0], [0], [0], [0], [0], [0], [0], [0], [0], [0], [0], [0], [0], [0], [1], [2]] (by kernel_rfl) (by kernel_rfl) (by kernel_rfl) (by kernel_rfl) (by kernel_rfl) (by kernel_rfl) ?_ ?_ ?_
      · exact HW0.out
      · exact ⟨⟨(.val (by kernel_rfl) (by kernel_rfl)), (.val (by kernel_rfl) (by kernel_rfl)), trivial⟩,
      ⟨(.val (by kernel_rfl) (by kernel_rfl)), trivial⟩,
      ⟨(.val (by kernel_rfl) (by kernel_rfl)), trivial⟩,
      ⟨(.val (by kernel_rfl) (Ex.indexAddr rfl hix)), trivial⟩,
      ⟨(.val (by kernel_rfl) (by kernel_rfl)), trivial⟩,
      ⟨(.val (by kernel_rfl) (Ex.load rfl hl0)), trivial⟩,
      ⟨(.val (by kernel_rfl) (by kernel_rfl)), trivial⟩,
      ⟨(.val (by kernel_rfl) (by kernel_rfl)), trivial⟩,
      ⟨(.val (by kernel_rfl) (Ex.indexAddr rfl hix)), trivial⟩,
      ⟨(.val (by kernel_rfl) (by kernel_rfl)), trivial⟩,
      ⟨(.val (by kernel_rfl) (Ex.load rfl hl1)), trivial⟩,
      ⟨(.val (by kernel_rfl) (by kernel_rfl)), trivial⟩,
      ⟨(.val (by kernel_rfl) (by kernel_rfl)), trivial⟩,
      ⟨(.val (by kernel_rfl) (Ex.indexAddr rfl hix)), trivial⟩,
      ⟨(.val (by kernel_rfl) (by kernel_rfl)), trivial⟩,
      ⟨(.val (by kernel_rfl) (Ex.load rfl hl2)), trivial⟩,
      ⟨(.val (by kernel_rfl) (Ex.build3 rfl hbd)), trivial⟩,
      ⟨(.val (by kernel_rfl) (Ex.buildSlice1 rfl hbs)), trivial⟩,
      ⟨(.val (by kernel_rfl) (Ex.append (t := 56) rfl hap)), trivial⟩,
      ⟨(.val (by kernel_rfl) (by kernel_rfl)), trivial⟩,
      trivial⟩
      simp only [Go.Drawn.putAll, Act.put, List.getD_cons_zero, List.getD_cons_succ, List.setIfInBounds_toArray, List.set_cons_zero, List.set_cons_succ, List.length_cons, List.length_nil, Nat.reduceAdd]
      clear hl0 hl1 hl2 hix hbd hbs hap
      go_wp2_with fail
      refine ⟨⟨k + 1, a4, c4, by omega, by go_num, rfl, by rw [HTK.out]; exact HS2.out, HC2.out, HN2.out⟩, ?_⟩
      simp [intOf]; omega
    · have hkn' : k = n := by omega
      have HK : Hid (k = n) := hkn'
      clear hkn'
      go_wp2_with fail
      go_ret
      refine ⟨_, rfl, ?_, HNEW.out, HC.out⟩
      have h1 := HSL.out
      rw [HK.out, HN.out, List.take_length, ← HN.out, ← HK.out] at h1
      exact h1

set_option maxRecDepth 100000 in
set_option maxHeartbeats 4000000 in
/-- as, of the laws -/
theorem as_any (v : Value) (xs : List It) (w : World) (h : Sl w 40 35 v (xs.map It.cells)) (hx : xs.length ≤ 1000) :
    Calls Try.prog 23 #[v] w fun e w' => ∃ v', e = .returned v' ∧ Sl w' 80 35 v' (xs.map It.cells) ∧ (∀ k, v'.ownBlock = some k → w.heap.size ≤ k) ∧ Chg (fun _ => False) w w' := by
  obtain ⟨n, hn⟩ : ∃ n, n = xs.length := ⟨_, rfl⟩
  obtain ⟨a, c, rfl, _⟩ := Sl.shape2 h
  rw [List.length_map, ← hn] at h ⊢
  have H : Hid (Sl w 40 35 (.slice a n c) (xs.map It.cells)) := h
  have HN : Hid (n = xs.length) := hn
  have hn1 : n ≤ 1000 := by omega
  clear h hn hx
  go_enter Try.func23, Try.ntmps23
  go_wp2_with fail
  go_loopw [3, 4] (fun v i wr => ∃ (k : Nat) (a3 : Option Addr) (c3 : Nat), k ≤ n ∧ i = .int .i64 k ∧ v = .slice a3 k c3 ∧ Sl wr 80 35 (.slice a3 k c3) ((xs.take k).map It.cells) ∧ Chg (fun _ => False) w wr ∧ ∀ q, (Value.slice a3 k c3).ownBlock = some q → w.heap.size ≤ q) (fun _ i _ => n - (intOf i).toNat)
  case atStart => exact ⟨0, none, 0, Nat.zero_le _, rfl, rfl, Sl.nil _ _ _, Chg.refl _ _, fun q hq => by simp [Value.ownBlock] at hq⟩
  case round =>
    obtain ⟨k, a3, c3, hk, rfl, rfl, hsl, hch, hnew⟩ := hrel
    have HSL : Hid (Sl wr 80 35 (.slice a3 k c3) ((xs.take k).map It.cells)) := hsl
    have HC : Hid (Chg (fun _ => False) w wr) := hch
    have HNEW : Hid (∀ q, (Value.slice a3 k c3).ownBlock = some q → w.heap.size ≤ q) := hnew
    clear hsl hch hnew
    by_cases hkn : k < n
    · obtain ⟨x, hx⟩ : ∃ x, xs[k]? = some x := ⟨_, List.getElem?_eq_getElem (by rw [← HN.out]; exact hkn)⟩
      obtain ⟨g, o, c', hva, hra⟩ := (H.out.chg HC.out fun _ _ h => h).at (i := k) (x := x.cells) (by rw [List.getElem?_map, hx]; rfl)
      have ea : a = some ⟨g, o, none⟩ := (Value.slice.inj hva).1
      subst ea
      clear hva
      obtain ⟨hev, hlo⟩ := ev_range hra
      obtain ⟨bt, hbt⟩ : ∃ bt, bt = wr.heap.size := ⟨_, rfl⟩
      obtain ⟨WA, hWA⟩ : ∃ WA, WA = wr.alloc (.cells (evC 0 0 0).toArray 38) := ⟨_, rfl⟩
      have hal : (Instr.alloc 38 true (.tuple #[])).run Try.prog wr = .ok (.pointer (some ⟨bt, 0, none⟩)) WA := by rw [hWA, hbt]; kernel_rfl
      have hqA : WA.heap[bt]? = some (.cells (evC 0 0 0).toArray 38) := by rw [hWA, hbt]; exact heap_alloc_new _ _
      obtain ⟨WB, hst, hqB, cB⟩ := storeT hqA x.ev.cells rfl (by kernel_rfl) (fun u hu => (List.all_eq_true.1 (show (x.ev.cells.all (·.oneCell')) = true from rfl)) u hu)
      have cAw : Chg (fun _ => False) wr WB := by
        have : Chg (fun _ => False) wr WA := by rw [hWA]; exact (Chg.refl _ wr).alloc _
        exact this.trans (cB.mono fun q _ h => .inr (by omega))
      have hldE : (Instr.loadAt 38 (.pointer (some ⟨g, o + k * 35, none⟩))).run Try.prog wr = .ok (.agg x.ev.cells.toArray) wr :=
        run_loadAt_mid wr g (o + k * 35) 38 x.ev.cells _ hev Try.underlying38 rfl (by kernel_rfl)
      have HSLB := HSL.out.chg cAw fun _ _ h => h
      have HCB := HC.out.trans (cAw.mono fun _ _ h => .inl h)
      have hgl : g < wr.heap.size := by
        have h1 := hra 0 _ rfl
        simp only [World.cell?] at h1
        split at h1
        · exact lt_of_at (by assumption)
        · cases h1
      obtain ⟨W0, hW0⟩ : ∃ W0, W0 = WB.drew := ⟨_, rfl⟩
      obtain ⟨hs, hhs⟩ : ∃ hs, hs = W0.heap.size := ⟨_, rfl⟩
      obtain ⟨W1, hW1⟩ : ∃ W1, W1 = W0.alloc (.cells x.cells.toArray 80) := ⟨_, rfl⟩
      have hsW0 : Sl W0 80 35 (.slice a3 k c3) ((xs.take k).map It.cells) := by rw [hW0]; exact HSLB.chg ((Chg.refl (fun _ => False) _).drew) fun _ _ h => h
      have hsW1 : Sl W1 80 35 (.slice a3 k c3) ((xs.take k).map It.cells) := by rw [hW1]; exact hsW0.chg ((Chg.refl (fun _ => False) _).alloc _) fun _ _ h => h
      have hbs : (Instr.buildSlice 58 1 #[(0, .agg x.cells.toArray)]).run Try.prog W0 = .ok (.slice (some ⟨hs, 0, none⟩) 1 1) W1 := by rw [hW1, hhs]; exact bs58' x W0
      obtain ⟨ie, hi, hz, hsz, hby⟩ := info80
      have hln : ((xs.take k).map It.cells).length = k := by rw [List.length_map, List.length_take, ← HN.out]; omega
      obtain ⟨v4, W2, hap, hsl4, cA, how, _⟩ := Sl.append (P := Try.prog) 58 58 Try.underlying58 hi hz hsz hby rfl hsW1 ⟨hs, 0, none⟩ 1 [x.cells] (fun y hy => by rw [List.mem_singleton.1 hy]; rfl)
        (fun j u hj => by
          rw [Addr.add_mid, Nat.zero_add, hW1, hhs]
          simp only [World.cell?, heap_alloc_new]
          simpa using hj)
        (fun y hy => by rw [List.mem_singleton.1 hy]; exact (fun u hu => (List.all_eq_true.1 (show (x.cells.all (·.oneCell')) = true from rfl)) u hu))
        (by simp) (by rw [hln]; simp only [List.length_singleton]; unfold maxLen; omega) (by rw [hln]; simp only [List.length_singleton]; omega)
      obtain ⟨a4, c4, hv4⟩ := hsl4.shape
      rw [show ((xs.take k).map It.cells ++ [x.cells]).length = k + 1 by rw [List.length_append, hln]; rfl] at hv4
      subst hv4
      have cW1 : Chg (fun _ => False) w W1 := by rw [hW1, hW0]; exact (HCB.drew).alloc _
      have HTK : Hid ((xs.take (k + 1)).map It.cells = (xs.take k).map It.cells ++ [x.cells]) := by unfold Hid; rw [List.take_add_one, hx]; simp
      have HS2 : Hid (Sl W2 80 35 (.slice a4 (k + 1) c4) ((xs.take k).map It.cells ++ [x.cells])) := hsl4
      have HC2 : Hid (Chg (fun _ => False) w W2) := cW1.trans (cA.mono fun q _ h => .inr (HNEW.out q h))
      have HN2 : Hid (∀ q, (Value.slice a4 (k + 1) c4).ownBlock = some q → w.heap.size ≤ q) := fun q hq => by
        rcases how with ho | ho
        · exact HNEW.out q (by rw [← ho]; exact hq)
        · rw [ho] at hq; cases hq; exact cW1.size
      have HW0 : Hid (W0 = WB.drew) := hW0
      have hrb : W0.rangeAt bt 0 x.ev.cells := fun j u hj => by
        have : W0.heap[bt]? = some (.cells x.ev.cells.toArray 38) := by rw [hW0]; exact hqB
        simp only [World.cell?, this, Nat.zero_add]; simpa using hj
      have hix := index32 W0 g o n c k hkn
      have hl0 : (Instr.loadAt 3 (.pointer (some ⟨bt, 0, none⟩))).run Try.prog W0 = .ok (.int .i64 x.a) W0 := Ex.load1 Try.underlying3 rfl (by have := hrb 0 _ rfl; simpa [It.ev] using this)
      have hl1 := load36 hrb
      rw [Nat.zero_add] at hl1
      have hl2 : (Instr.loadAt 25 (.pointer (some ⟨bt, 33, none⟩))).run Try.prog W0 = .ok (.int .u64 x.v) W0 := Ex.load1 Try.underlying25 rfl (by have := hrb 33 _ rfl; simpa [It.ev] using this)
      have hl3 : (Instr.loadAt 25 (.pointer (some ⟨g, o + k * 35 + 34, none⟩))).run Try.prog W0 = .ok (.int .u64 x.l) W0 := Ex.load1 Try.underlying25 rfl (by
        rw [hW0]
        have h1 := cAw.block g hgl id
        simp only [World.cell?] at hlo ⊢
        rw [show WB.drew.heap = WB.heap from rfl, h1]; exact hlo)
      have hbd : (Instr.build 78 #[(0, .int .i64 x.a), (1, .agg (keyC x.b).toArray), (2, .int .u64 x.v)]).run Try.prog W0 = .ok (.agg x.ev.cells.toArray) W0 := build78 x.a x.b x.v W0
      have hbe := build80x x W0
      clear hra hev hlo hbt hWA hqA hqB cB cAw hgl hrb hW0 hhs hW1 hsW0 hsW1 hi hz hsz hby hln hsl4 cA how cW1 hx HSLB HCB
      go_wp2_with (first
        | ((with_reducible refine Step.wpList_op (.load 38 (.tmp 15)) rfl ?_); refine Step.wpList_run rfl (.agg x.ev.cells.toArray) wr (Ex.load rfl hldE) ?_)
        | ((with_reducible refine Step.wpList_op (.alloc 38) rfl ?_); refine Step.wpList_run rfl _ WA (Ex.alloc rfl hal) ?_)
        | ((with_reducible refine Step.wpList_op (.store 38 (.tmp 5) (.tmp 16)) rfl ?_); refine Step.wpList_skip1 rfl WB (Ex.store rfl hst) ?_))
      refine Go.Drawn.wp_region_chain [[], [], [1], [], [3], [], [5], [1, 2, 3, 4, 5, 6], [], [], [8, 9], [8, 9, 10], [8, 9, 10, 11], [1, 2, 3, 4, 5, 6, 7, 8, 9, 10, 11, 12], [1, 2, 3, 4, 5, 6, 7, 8, 9, 10, 11, 12, 13], [0, 1, 2, 3, 4, 5, 6, 7, 8, 9, 10, 11, 12, 13, 14], [0, 1, 2, 3, 4, 5, 6, 7, 8, 9, 10, 11, 12, 13, 14, 15]] [.slice a3 k c3, .pointer (some ⟨bt, 0, none⟩), .int .i64 x.a, .pointer (some ⟨bt, 1, none⟩), .agg (keyC x.b).toArray, .pointer (some ⟨bt, 33, none⟩), .int .u64 x.v, .agg (x.ev).cells.toArray, .slice (some ⟨g, o, none⟩) n c, .int .i64 k, .pointer (some ⟨g, o + k * 35, none⟩), .pointer (some ⟨g, o + k * 35 + 34, none⟩), .int .u64 x.l, .agg x.cells.toArray, .slice (some ⟨hs, 0, none⟩) 1 1, .slice a4 (k + 1) c4, .slice a4 (k + 1) c4] (fun k => ([W0, W1, W2] : List World).getD k (W0)) [14, 15] [[0, 1], [0], [0], [0], [0], [0], [0], [0], [0], [0], [0], [0], [0], [0], [0], [1], [2]] (by kernel_rfl) (by kernel_rfl) (by kernel_rfl) (by kernel_rfl) (by kernel_rfl) (by kernel_rfl) ?_ ?_ ?_
      · exact HW0.out
      · exact ⟨⟨(.val (by kernel_rfl) (by kernel_rfl)), (.val (by kernel_rfl) (by kernel_rfl)), trivial⟩,
      ⟨(.val (by kernel_rfl) (by kernel_rfl)), trivial⟩,
      ⟨(.val (by kernel_rfl) (Ex.load rfl hl0)), trivial⟩,
      ⟨(.val (by kernel_rfl) (by kernel_rfl)), trivial⟩,
      ⟨(.val (by kernel_rfl) (Ex.load rfl hl1)), trivial⟩,
      ⟨(.val (by kernel_rfl) (by kernel_rfl)), trivial⟩,
      ⟨(.val (by kernel_rfl) (Ex.load rfl hl2)), trivial⟩,
      ⟨(.val (by kernel_rfl) (Ex.build3 rfl hbd)), trivial⟩,
      ⟨(.val (by kernel_rfl) (by kernel_rfl)), trivial⟩,
      ⟨(.val (by kernel_rfl) (by kernel_rfl)), trivial⟩,
      ⟨(.val (by kernel_rfl) (Ex.indexAddr rfl hix)), trivial⟩,
      ⟨(.val (by kernel_rfl) (by kernel_rfl)), trivial⟩,
      ⟨(.val (by kernel_rfl) (Ex.load rfl hl3)), trivial⟩,
      ⟨(.val (by kernel_rfl) (Ex.build2 rfl hbe)), trivial⟩,
      ⟨(.val (by kernel_rfl) (Ex.buildSlice1 rfl hbs)), trivial⟩,
      ⟨(.val (by kernel_rfl) (Ex.append (t := 58) rfl hap)), trivial⟩,
      ⟨(.val (by kernel_rfl) (by kernel_rfl)), trivial⟩,
      trivial⟩
      simp only [Go.Drawn.putAll, Act.put, List.getD_cons_zero, List.getD_cons_succ, List.setIfInBounds_toArray, List.set_cons_zero, List.set_cons_succ, List.length_cons, List.length_nil, Nat.reduceAdd]
      clear hl0 hl1 hl2 hix hbd hbs hap hl3 hbe hldE hal hst
      go_wp2_with fail
      refine ⟨⟨k + 1, a4, c4, by omega, by go_num, rfl, by rw [HTK.out]; exact HS2.out, HC2.out, HN2.out⟩, ?_⟩
      simp [intOf]; omega
    · have hkn' : k = n := by omega
      have HK : Hid (k = n) := hkn'
      clear hkn'
      go_wp2_with fail
      go_ret
      refine ⟨_, rfl, ?_, HNEW.out, HC.out⟩
      have h1 := HSL.out
      rw [HK.out, HN.out, List.take_length, ← HN.out, ← HK.out] at h1
      exact h1
end Go.Proofs.Ytdljloohgidbfaa
