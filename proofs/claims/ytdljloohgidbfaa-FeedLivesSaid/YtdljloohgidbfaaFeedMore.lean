/-
  The contracts of Leave and Watchers; of Watch where it is full, of Waits where there is none.
-/
import Derived.Test.YtdljloohgidbfaaRefLeave
import Derived.Test.YtdljloohgidbfaaFeedNil
namespace Go.Proofs.Ytdljloohgidbfaa
open Go Go.RowKit Go.Mem

set_option maxRecDepth 100000 in
set_option maxHeartbeats 1000000 in
theorem watch_full (fb mb last : Nat) (rows : List Row) (w : World) (h : FeedRows w fb mb last rows) (hn : 8 ≤ rows.length) :
    Calls Try.prog 9 #[.pointer (some ⟨fb, 0, none⟩)] w fun e w' => e = .returned (.tuple #[.int .u64 0, .int .i64 5]) ∧ w' = w := by
  have hm0 := made_any fb mb (.int .u64 last) w h.feed
  have hc0 : w.cell? ⟨fb, 0, none⟩ = some (.map (some mb)) := by simp [World.cell?, h.feed]
  have hlen := h.map.len (t := 68) Try.underlying68 3
  rw [size_DM] at hlen
  have hn8 : 8 ≤ (rows.length : Int) := by omega
  clear h
  go_enter Try.func9, Try.ntmps9
  go_wp2_with fail
  refine hm0.mono ?_
  rintro e w9 ⟨rfl, hw9⟩
  rw [hw9]
  clear hw9 w9 hm0
  go_wp2_with fail
  go_ret2
  exact ⟨rfl, rfl⟩
set_option maxRecDepth 100000 in
set_option maxHeartbeats 1000000 in
theorem waits_none (fb mb last : Nat) (rows : List Row) (x : Nat) (w : World) (h : FeedRows w fb mb last rows) (hx : x < 18446744073709551616) (hr : ∀ r ∈ rows, r.id ≠ x) :
    Calls Try.prog 14 #[.pointer (some ⟨fb, 0, none⟩), .int .u64 x] w fun e w' => e = .returned (.int .i64 0) ∧ w' = w := by
  have hm0 := made_any fb mb (.int .u64 last) w h.feed
  have hc0 : w.cell? ⟨fb, 0, none⟩ = some (.map (some mb)) := by simp [World.cell?, h.feed]
  have hlk := look_none h hx hr
  clear h hr hx
  go_enter Try.func14, Try.ntmps14
  go_wp2_with fail
  refine hm0.mono ?_
  rintro e w9 ⟨rfl, hw9⟩
  rw [hw9]
  clear hw9 w9 hm0
  go_wp2_with fail
  go_ret
  exact ⟨rfl, rfl⟩
set_option maxRecDepth 100000 in
set_option maxHeartbeats 1000000 in
theorem leave_none (fb mb last : Nat) (rows : List Row) (x : Nat) (w : World) (h : FeedRows w fb mb last rows) (hx : x < 18446744073709551616) (hr : ∀ r ∈ rows, r.id ≠ x) :
    Calls Try.prog 17 #[.pointer (some ⟨fb, 0, none⟩), .int .u64 x] w fun e w' => e = .returned (.bool false) ∧ w' = w := by
  have hm0 := made_any fb mb (.int .u64 last) w h.feed
  have hc0 : w.cell? ⟨fb, 0, none⟩ = some (.map (some mb)) := by simp [World.cell?, h.feed]
  have hlk := look_none h hx hr
  clear h hr hx
  go_enter Try.func17, Try.ntmps17
  go_wp2_with fail
  refine hm0.mono ?_
  rintro e w9 ⟨rfl, hw9⟩
  rw [hw9]
  clear hw9 w9 hm0
  go_wp2_with fail
  go_ret
  exact ⟨rfl, rfl⟩

theorem ownsMap_fit {w : World} {R : Value → Option (DataW Unit × List MemPlace)} {k b n : Nat} {D : DataW Unit} (h : w.ownsMap Try.prog k R b n D) : w.ownsMap Try.prog k R b (Maps.size D) D := by
  obtain ⟨es, clock, hb, F, hs, rfl⟩ := h
  exact ⟨es, clock, hb, F, by simp [Maps.size, length_sorted], rfl⟩
theorem chg_turned {w w' : World} {b : Nat} (h : w.mapTurned w' b) : Chg (fun k => k = b) w w' := by
  obtain ⟨es, clock, es', clock', hb, rfl⟩ := h
  refine ⟨rfl, rfl, rfl, ?_, fun k _ hk => ChangeMaps.heap_setBlock_other hb _ hk⟩
  simp [ChangeMaps.setBlock]
theorem del_DM {A B : List Row} {r : Row} (h : (A ++ r :: B).Pairwise fun r s => r.id < s.id) : (DM (A ++ r :: B)).del (.int .u64 r.id) = DM (A ++ B) := by
  have h1 := List.pairwise_append.1 h
  have h2 := List.pairwise_cons.1 h1.2.1
  have key : ∀ l : List Row, (∀ s ∈ l, s.id ≠ r.id) → (l.map fun r => ((.int .u64 r.id, .lit (.int .u64 r.blk)) : Lit × DataW Unit)).filter (fun p => !p.1.sameKey (.int .u64 r.id)) = l.map fun r => (.int .u64 r.id, .lit (.int .u64 r.blk)) := fun l hl => by
    refine List.filter_eq_self.2 fun p hp => ?_
    obtain ⟨s, hs, rfl⟩ := List.mem_map.1 hp
    rw [key_same, decide_eq_false (hl s hs)]; rfl
  unfold DM DataW.del
  simp only [List.map_append, List.map_cons, List.filter_append, List.filter_cons, key_same, decide_true, Bool.not_true, Bool.false_eq_true, if_false]
  rw [key A fun s hs => by have := h1.2.2 s hs r (by simp); omega, key B fun s hs => by have := h2.1 s hs; omega]

set_option maxRecDepth 100000 in
set_option maxHeartbeats 2000000 in
theorem leave_walk (fb mb last : Nat) (A B : List Row) (r : Row) (w : World) (h : FeedRows w fb mb last (A ++ r :: B)) :
    Calls Try.prog 17 #[.pointer (some ⟨fb, 0, none⟩), .int .u64 r.id] w fun e w' => e = .returned (.bool true) ∧ FeedRows w' fb mb last (A ++ B) ∧ Chg (fun k => k = mb) w w' := by
  have hm0 := made_any fb mb (.int .u64 last) w h.feed
  have hc0 : w.cell? ⟨fb, 0, none⟩ = some (.map (some mb)) := by simp [World.cell?, h.feed]
  have hlk := look_row h (r := r) (by simp)
  have K : Maps.Keyed Try.prog 25 := Maps.int_keyed Try.underlying25
  have hkey : keyOf Try.prog 25 (.int .u64 (r.id : Int)) = some (.int .u64 (r.id : Int)) := Maps.keyOf_int_mk Try.underlying25 (WalkArith.wf_u64 (by have := h.upto r (by simp); have := h.big; omega))
  have hnil : (binOp .eql 72 (.pointer (some ⟨r.blk, 0, none⟩)) (.pointer none)).run Try.prog w = .ok (.bool false) w := by kernel_rfl
  have hmap := h.map
  have H : Hid (FeedRows w fb mb last (A ++ r :: B)) := h
  clear h
  go_enter Try.func17, Try.ntmps17
  go_wp2_with fail
  refine hm0.mono ?_
  rintro e w9 ⟨rfl, hw9⟩
  rw [hw9]
  clear hw9 w9 hm0
  have tok1 : True := trivial
  go_wp2_with (first | (have _t := tok1; refine wpList_delete_own _ rfl _ _ 68 25 rfl 72 K Try.underlying68 ptrR mb (A ++ r :: B).length (DM (A ++ r :: B)) rfl hmap _ _ rfl hkey ?_; intro w1 hown1 hturn1; clear tok1) | fail)
  go_ret
  have h := H.out
  have c := chg_turned hturn1
  have hmb : ∀ s ∈ A ++ B, s.blk ≠ mb := fun s hs => cells_map (h.row s (mem_drop hs)).cell h.map
  rw [del_DM h.ids] at hown1
  refine ⟨rfl, ⟨c.at h.feed (cells_map h.feed h.map), ?_, fun s hs => (h.row s (mem_drop hs)).chg c (hmb s hs) fun k hk e => ?_, pair_drop h.apart, pair_drop h.ids, fun s hs => h.upto s (mem_drop hs), h.big, fun s hs => h.few s (mem_drop hs)⟩, c⟩
  · have := ownsMap_fit hown1
    rw [size_DM] at this; exact this
  · subst e; exact own_map (h.row s (mem_drop hs)).sl h.map hk

theorem own_maplike {w : World} {e sz : Nat} {sv : Value} {xs : List (List Value)} (h : Sl w e sz sv xs) {b n : Nat} {D : DataW Unit} (hb : w.ownsMap Try.prog 25 ptrR b n D) : sv.ownBlock ≠ some b := own_map h hb
theorem nat_u64C {zs : List Nat} : (zs.map fun z : Nat => (z : Int)).map u64C = zs.map fun z : Nat => [Value.int .u64 (z : Int)] := by rw [List.map_map]; rfl
theorem filter_split {rows : List Row} {left : Lit → Bool} {r0 : Row} (h : r0 ∈ rows) (hi : rows.Pairwise fun r s => r.id < s.id) (hl : left (.int .u64 r0.id) = true) :
    ((rows.filter fun r => !(left (.int .u64 r.id) && !(Lit.int .u64 (r.id : Int)).sameKey (.int .u64 r0.id))).map (·.id)).Perm ((rows.filter fun r => !left (.int .u64 r.id)).map (·.id) ++ [r0.id]) := by
  obtain ⟨A, B, rfl⟩ := row_split h
  have h1 := List.pairwise_append.1 hi
  have h2 := List.pairwise_cons.1 h1.2.1
  have key : ∀ l : List Row, (∀ s ∈ l, s.id ≠ r0.id) → (l.filter fun r => !(left (.int .u64 r.id) && !(Lit.int .u64 (r.id : Int)).sameKey (.int .u64 r0.id))) = l.filter fun r => !left (.int .u64 r.id) := fun l hl => by
    refine List.filter_congr fun s hs => ?_
    rw [key_same, decide_eq_false (hl s hs)]; simp
  rw [List.filter_append, List.filter_append, List.filter_cons, List.filter_cons, key A fun s hs => by have := h1.2.2 s hs r0 (by simp); omega, key B fun s hs => by have := h2.1 s hs; omega]
  simp only [key_same, hl, decide_true, Bool.not_true, Bool.and_false, Bool.not_false, if_true, Bool.false_eq_true, if_false, List.map_append, List.map_cons]
  rw [List.append_assoc]
  refine List.Perm.append_left _ ?_
  exact (List.perm_append_singleton _ _).symm

theorem info25 : ∃ i, Try.prog.info? 25 = some i ∧ i.zero = some (.int .u64 0) ∧ i.size = 1 ∧ i.bytes = 8 := by
  have h : (Try.prog.info? 25).map (fun i => (i.zero, i.size, i.bytes)) = some (some (.int .u64 0), 1, 8) := by kernel_rfl
  cases hq : Try.prog.info? 25 with
  | none => rw [hq] at h; cases h
  | some i0 => rw [hq] at h; simp at h; exact ⟨i0, rfl, h.1, h.2.1, h.2.2⟩
theorem bs63 (x : Int) (w : World) : (Instr.buildSlice 63 1 #[(0, .int .u64 x)]).run Try.prog w = .ok (.slice (some ⟨w.heap.size, 0, none⟩) 1 1) (w.alloc (.cells #[.int .u64 x] 25)) := by
  obtain ⟨ie, hi, hz, hs, _⟩ := info25
  refine run_buildSlice w 63 25 1 _ _ ie _ Try.underlying63 hi hz (by rw [hs]; decide) (by rw [hs]; decide) ?_
  rw [hs]
  kernel_rfl

set_option maxRecDepth 100000 in
set_option maxHeartbeats 4000000 in
theorem watchers_walk (fb mb last : Nat) (rows : List Row) (w : World) (h : FeedRows w fb mb last rows) (hn : rows.length ≤ 8) :
    Calls Try.prog 24 #[.pointer (some ⟨fb, 0, none⟩)] w fun e w' => ∃ v, e = .returned v ∧ Sl w' 25 1 v ((rows.map (·.id)).map fun z : Nat => [Value.int .u64 (z : Int)]) ∧ (∀ k, v.ownBlock = some k → w.heap.size ≤ k) ∧ Chg (fun _ => False) w w' := by
  have hm0 := made_any fb mb (.int .u64 last) w h.feed
  have hc0 : w.cell? ⟨fb, 0, none⟩ = some (.map (some mb)) := by simp [World.cell?, h.feed]
  have K : Maps.Keyed Try.prog 25 := Maps.int_keyed Try.underlying25
  have hmap := h.map
  have H : Hid (FeedRows w fb mb last rows) := h
  have HN : Hid (rows.length ≤ 8) := hn
  clear h hn
  go_enter Try.func24, Try.ntmps24
  go_wp2_with fail
  refine hm0.mono ?_
  rintro e w9 ⟨rfl, hw9⟩
  rw [hw9]
  clear hw9 w9 hm0
  go_wp2_with (first | (at_range; refine wpList_range_own _ rfl _ 68 rfl 25 72 K Try.underlying68 _ mb rows.length (DM rows) rfl hmap ?_; intro w0 hrg0 hg0 hs0) | go_in)
  go_frame
  have HC0 : Hid (Chg (fun _ => False) w w0) := (Chg.of_grown hg0).mono fun _ _ h => by cases h
  have HS0 : Hid (w0.heap.size = w.heap.size + 1) := hs0
  obtain ⟨rb, hrb⟩ : ∃ rb, rb = w.heap.size := ⟨_, rfl⟩
  rw [← hrb] at hrg0 ⊢
  have HRB : Hid (rb = w.heap.size) := hrb
  have HRG : Hid (w0.ranges Try.prog 25 ptrR mb rb rows.length (DM rows) (Maps.has (DM rows)) (Maps.size (DM rows))) := hrg0
  clear hg0 hs0 hmap hrb hrg0 hc0
  go_loopw [3, 4] (fun v _ wr => ∃ (left : Lit → Bool) (cnt : Nat) (zs : List Nat) (m : Nat) (a3 : Option Addr) (c3 : Nat), v = .slice a3 m c3 ∧ m = zs.length ∧ (a3 = none → c3 = 0 ∧ m = 0) ∧ wr.ranges Try.prog 25 ptrR mb rb rows.length (DM rows) left cnt ∧ (∀ kl, left kl = true → Maps.has (DM rows) kl = true) ∧
      zs.Perm ((rows.filter fun r => !left (.int .u64 r.id)).map (·.id)) ∧ Sl wr 25 1 (.slice a3 m c3) (zs.map fun z : Nat => [Value.int .u64 (z : Int)]) ∧ Chg (fun _ => False) w wr ∧ (∀ k, (Value.slice a3 m c3).ownBlock = some k → rb < k) ∧ rb < wr.heap.size) (fun _ _ wr => wr.rangeLeft mb rb)
  case atStart =>
    refine ⟨_, _, [], 0, none, 0, rfl, rfl, fun _ => ⟨rfl, rfl⟩, HRG.out, fun _ h => h, ?_, Sl.nil _ _ _, HC0.out, fun k hk => by simp [Value.ownBlock] at hk, by rw [HRB.out, HS0.out]; omega⟩
    have : (rows.filter fun r => !Maps.has (DM rows) (.int .u64 r.id)) = [] := List.filter_eq_nil_iff.2 fun r hr => by rw [DM_has hr]; simp
    rw [this]; exact List.Perm.refl _
  case round =>
    obtain ⟨left, cnt, zs, m, a3, c3, rfl, hm, hnil, hrg, hsub, hperm, hsl, hch, hown, hrl⟩ := hrel
    have HM : Hid (m = zs.length) := hm
    have HNI : Hid (a3 = none → c3 = 0 ∧ m = 0) := hnil
    have HSUB : Hid (∀ kl, left kl = true → Maps.has (DM rows) kl = true) := hsub
    have HP : Hid (zs.Perm ((rows.filter fun r => !left (.int .u64 r.id)).map (·.id))) := hperm
    have HSL : Hid (Sl wr 25 1 (.slice a3 m c3) (zs.map fun z : Nat => [Value.int .u64 (z : Int)])) := hsl
    have HC : Hid (Chg (fun _ => False) w wr) := hch
    have HOW : Hid (∀ k, (Value.slice a3 m c3).ownBlock = some k → rb < k) := hown
    have HRL : Hid (rb < wr.heap.size) := hrl
    have HRG2 : Hid (wr.ranges Try.prog 25 ptrR mb rb rows.length (DM rows) left cnt) := hrg
    have HZ8 : Hid (zs.length ≤ 8) := by
      have h1 := hperm.length_eq
      rw [List.length_map] at h1
      have h2 := List.length_filter_le (fun r : Row => !left (.int .u64 r.id)) rows
      have := HN.out
      unfold Hid; omega
    clear hm hnil hsub hperm hsl hch hown hrl HRG HC0 HS0
    go_wp2_with (first
      | (at_next; refine wpList_next_ranges _ rfl _ rfl 25 K ptrR (Value.int .u64) (Value.pointer) (fun key kl hkey => by obtain ⟨x, rfl, _⟩ := Maps.keyOf_int_inv Try.underlying25 hkey; exact ⟨x, rfl⟩) (fun v y hv => ptrR_shape hv) mb rb rows.length (DM rows) left cnt rfl hrg ?_ ?_)
      | go_in)
    · intro hcn hl0
      clear hrg
      have hall : (rows.filter fun r => !left (.int .u64 r.id)) = rows := List.filter_eq_self.2 fun r _ => by rw [hl0]; rfl
      have hp := HP.out
      rw [hall] at hp
      have HPF : Hid (zs.Perm (rows.map (·.id))) := hp
      have HLZ : Hid (m ≤ 12) := by have := HM.out; have := HZ8.out; unfold Hid; omega
      clear hall hp
      cases a3 with
      | none =>
        obtain ⟨rfl, rfl⟩ := HNI.out rfl
        have hsn := sort_nil wr
        go_wp2_with fail
        refine hsn.mono ?_
        rintro e w9 ⟨rfl, hw9⟩
        rw [hw9]
        clear hw9 w9 hsn
        go_wp2_with fail
        go_ret
        refine ⟨_, rfl, ?_, fun k hk => by simp [Value.ownBlock] at hk, HC.out⟩
        have hz : zs = [] := List.eq_nil_of_length_eq_zero HM.out.symm
        have h1 := HPF.out
        rw [hz] at h1
        rw [List.nil_perm.1 h1]
        exact Sl.nil _ _ _
      | some ad =>
        obtain ⟨g, o, hgo⟩ : ∃ g o, ad = ⟨g, o, none⟩ := by
          rcases HSL.out.2 with ⟨hv, _⟩ | ⟨g, o, cap, cur, hv, _⟩
          · cases hv
          · have := (Value.slice.inj hv).1
            exact ⟨g, o, by cases this; rfl⟩
        subst hgo
        have hsrt := sort_any g o m c3 (zs.map fun z : Nat => (z : Int)) wr (by rw [nat_u64C]; exact HSL.out) (by rw [List.length_map]; exact HM.out) HLZ.out
        go_wp2_with fail
        refine hsrt.mono ?_
        rintro e w9 ⟨rfl, ys, hy1, hy2, hy3, hy4⟩
        have hys : ys = (rows.map (·.id)).map fun z : Nat => (z : Int) := by
          refine List.Perm.eq_of_pairwise (le := (· ≤ ·)) (fun a b _ _ h1 h2 => by omega) hy2 ?_ (hy1.trans (HPF.out.map _))
          have hi := H.out.ids
          rw [List.map_map]
          refine List.pairwise_map.2 (hi.imp fun h => ?_)
          simp only [Function.comp]; omega
        rw [hys, nat_u64C] at hy3
        have HY : Hid (Sl w9 25 1 (.slice (some ⟨g, o, none⟩) m c3) ((rows.map (·.id)).map fun z : Nat => [Value.int .u64 (z : Int)])) := hy3
        have HCY : Hid (Chg (fun _ => False) w w9) := HC.out.trans (hy4.mono fun k _ h => .inr (by have := HOW.out g rfl; have := HRB.out; omega))
        clear hy1 hy2 hy3 hy4 hys hsrt
        go_wp2_with fail
        go_ret
        refine ⟨_, rfl, HY.out, fun k hk => ?_, HCY.out⟩
        have := HOW.out k hk; have := HRB.out; omega
    · intro x c kl yd yp w1 cnt1 hkey hlk hRv hat hrg1 hlt hg1 hs1 hen
      obtain ⟨r0, hr0, hkl⟩ := has_DM (HSUB.out kl hlk)
      obtain ⟨x2, hx2, hx3, _⟩ := Maps.keyOf_int_inv Try.underlying25 hkey
      have hxr : x = r0.id := by
        cases hx2
        have := hx3.symm.trans hkl
        cases this; rfl
      subst hxr
      subst hkl
      have c1 : Chg (fun k => k = rb) wr w1 := (Chg.of_grown hg1).mono fun _ _ h => by cases h; rfl
      have hsl1 : Sl w1 25 1 (.slice a3 m c3) (zs.map fun z : Nat => [Value.int .u64 (z : Int)]) := HSL.out.chg c1 fun k hk e => by have := HOW.out k hk; omega
      obtain ⟨WB, hWB⟩ : ∃ WB, WB = w1.alloc (.cells #[.int .u64 (r0.id : Int)] 25) := ⟨_, rfl⟩
      have hbs : (Instr.buildSlice 63 1 #[(0, .int .u64 (r0.id : Int))]).run Try.prog w1 = .ok (.slice (some ⟨w1.heap.size, 0, none⟩) 1 1) WB := by rw [hWB]; exact bs63 _ _
      have cWB : Chg (fun _ => False) w1 WB := by rw [hWB]; exact (Chg.refl _ w1).alloc _
      obtain ⟨ie, hi, hz, hsz, hby⟩ := info25
      have hz8 := HZ8.out
      obtain ⟨v4, W2, hap, hsl4, cA, how, hnn⟩ := Sl.append (P := Try.prog) 63 63 Try.underlying63 hi hz hsz hby rfl (hsl1.chg cWB fun _ _ h => h) ⟨w1.heap.size, 0, none⟩ 1 [[.int .u64 (r0.id : Int)]] (fun y hy => by rw [List.mem_singleton.1 hy]; rfl)
        (fun j u hj => by
          rw [Addr.add_mid, Nat.zero_add, hWB]
          simp only [World.cell?, heap_alloc_new]
          simpa using hj)
        (fun y hy u hu => by rw [List.mem_singleton.1 hy] at hu; rw [List.mem_singleton.1 hu]; rfl)
        (by simp) (by rw [List.length_map]; simp only [List.length_singleton]; unfold maxLen; omega) (by rw [List.length_map]; simp only [List.length_singleton]; omega)
      obtain ⟨a4, c4, hv4⟩ := hsl4.shape
      have hml : (zs.map (fun z : Nat => [Value.int .u64 (z : Int)]) ++ [[Value.int .u64 (r0.id : Int)]]).length = m + 1 := by rw [List.length_append, List.length_map, HM.out]; rfl
      rw [hml] at hv4
      subst hv4
      have hrlt : rb < w1.heap.size := by rw [hs1]; exact HRL.out
      have hno : ∀ k, (Value.slice a4 (m + 1) c4).ownBlock = some k → rb < k := fun k hk => by
        rcases how with ho | ho
        · exact HOW.out k (by rw [← ho]; exact hk)
        · rw [ho] at hk; cases hk; exact Nat.lt_of_lt_of_le hrlt cWB.size
      have cW2 : Chg (fun k => k ≠ mb ∧ rb < k) w1 W2 := (cWB.mono (T := fun k => k ≠ mb ∧ rb < k) fun _ _ h => h.elim).trans (cA.mono fun k hk h => .inl ⟨by
        intro he; subst he
        have := hrg1.owns
        exact own_maplike HSL.out HRG2.out.owns h, HOW.out k h⟩)
      have HR2 : Hid (W2.ranges Try.prog 25 ptrR mb rb rows.length (DM rows) (fun z => left z && !z.sameKey (.int .u64 r0.id)) cnt1) := ranges_chg hrg1 cW2 (fun h => h.1 rfl) (fun h => by omega)
      have HS2 : Hid (Sl W2 25 1 (.slice a4 (m + 1) c4) ((zs ++ [r0.id]).map fun z : Nat => [Value.int .u64 (z : Int)])) := by unfold Hid; rw [List.map_append]; exact hsl4
      have HP2 : Hid ((zs ++ [r0.id]).Perm ((rows.filter fun r => !(left (.int .u64 r.id) && !(Lit.int .u64 (r.id : Int)).sameKey (.int .u64 r0.id))).map (·.id))) :=
        (HP.out.append_right _).trans (filter_split hr0 H.out.ids hlk).symm
      have HC2 : Hid (Chg (fun _ => False) w W2) := (HC.out.trans (c1.mono fun k _ h => .inr (by have := HRB.out; omega))).trans (cW2.mono fun k _ h => .inr (by have := HRB.out; omega))
      have HO2 : Hid (∀ k, (Value.slice a4 (m + 1) c4).ownBlock = some k → rb < k) := hno
      have HA4 : Hid (a4 ≠ none) := fun he => hnn (by rw [he]; rfl)
      have HL2 : Hid (rb < W2.heap.size) := Nat.lt_of_lt_of_le hrlt cW2.size
      have HCT : Hid (cnt1 < cnt) := hlt
      clear hrg hkey hlk hRv hat hrg1 hlt hg1 hs1 hx2 hx3 c1 hsl1 hWB cWB hi hz hsz hby hz8 hsl4 cA how hnn hml hrlt hno cW2 hr0
      go_wp2_with (first
        | ((with_reducible refine Step.wpList_op (.buildSlice 63 1 #[(0, .tmp 17)]) rfl ?_); refine Step.wpList_run rfl _ WB (Ex.buildSlice1 rfl hbs) ?_)
        | ((with_reducible refine Step.wpList_op (.call { callee := .builtin .append, args := #[.tmp 16, .tmp 18], argTypes := #[63, 63] }) rfl ?_); refine Step.wpList_run rfl _ W2 (Ex.append (t := 63) rfl hap) ?_))
      refine ⟨⟨_, cnt1, zs ++ [r0.id], m + 1, a4, c4, rfl, by rw [List.length_append, ← HM.out]; rfl, fun h => absurd h HA4.out, HR2.out, fun z hz => HSUB.out z (by simp only [Bool.and_eq_true] at hz; exact hz.1), HP2.out, HS2.out, HC2.out, HO2.out, HL2.out⟩, ?_⟩
      rw [HR2.out.left_eq, HRG2.out.left_eq]
      exact HCT.out
end Go.Proofs.Ytdljloohgidbfaa
