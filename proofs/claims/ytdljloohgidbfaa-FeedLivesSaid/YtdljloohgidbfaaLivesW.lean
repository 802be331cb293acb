/-
  The walk of FeedLives.
-/
import Derived.Test.YtdljloohgidbfaaLivesD
namespace Go.Proofs.Ytdljloohgidbfaa
open Go Go.RowKit Go.Mem Go.Args

theorem cell_lt {w : World} {b o : Nat} {v : Value} (h : w.cell? ⟨b, o, none⟩ = some v) : b < w.heap.size := by
  simp only [World.cell?] at h
  split at h
  · exact lt_of_at (by assumption)
  · cases h
theorem neq_u64 (z : Int) (w : World) : (binOp .neq 25 (.int .u64 z) (.int .u64 z)).run Try.prog w = .ok (.bool false) w := by simp [binOp, Op.intCmp]

/-- what holds at the head of a round -/
def LivesI (w : World) (p x : Value) (n k X : Nat) (wr : World) : Prop :=
  ∃ (F : Nat × List AR) (S T : Nat → Prop), k ≤ n ∧ k ≤ 120 ∧ X ≤ 1 + 40 * k ∧ Bnd F k ∧ Duo w wr wr (fun _ => False) p x F F S T

/-- while both let one leave -/
def LeaveR (w Wb : World) (ob : Nat) (p x : Value) (F : Nat × List AR) (q k : Nat) (W : World) : Prop :=
  ∃ S T, Duo w W Wb (fun k => k = ob) p x (if 0 < k then goneF F q else F) (if 1 < k then goneF F q else F) S T
theorem leaveA {w Wb W : World} {ob : Nat} {p x : Value} {F : Nat × List AR} {q : Nat} (hq : q < 18446744073709551616) {b : Bool} (hb : b = hasF F q) (h : LeaveR w Wb ob p x F q 0 W) :
    Calls Try.prog 17 #[p, .int .u64 q] W fun e w2 => e = .returned (.bool b) ∧ LeaveR w Wb ob p x F q 1 w2 := by
  obtain ⟨S, T, hD⟩ := h
  refine (leave_all hD.a q hq).mono ?_
  rintro e w2 ⟨rfl, S', h1, h2, h3⟩
  exact ⟨by rw [hb]; rfl, S', T, hD.stepA h1 h2 h3⟩
theorem leaveB {w Wb W : World} {ob : Nat} {p x : Value} {F : Nat × List AR} {q : Nat} {b : Bool} (hb : b = hasF F q) (h : LeaveR w Wb ob p x F q 1 W) :
    Calls Try.prog 18 #[x, .int .u64 q] W fun e w2 => e = .returned (.bool b) ∧ LeaveR w Wb ob p x F q 2 w2 := by
  obtain ⟨S, T, hD⟩ := h
  refine (rleave_all hD.b q).mono ?_
  rintro e w2 ⟨rfl, T', h1, h2, h3⟩
  exact ⟨by rw [hb]; rfl, S, T', hD.stepB h1 h2 h3⟩

set_option maxRecDepth 100000 in
set_option maxHeartbeats 16000000 in
theorem lives_walk (a : Option Addr) (n cap y : Nat) (xs : List (List Int)) (w : World) (hy : y < 18446744073709551616) (hr : RdSl w 3 (.slice a n cap) (xs.map opC)) (hx : ∀ x ∈ xs, x.length = 3 ∧ ∀ m, x[1]? = some m → 0 ≤ m ∧ m ≤ 18446744073709551615) (hn : n = xs.length) (hcap : n ≤ maxLen) :
    Calls Try.prog 6 #[.slice a n cap, .int .u64 y] w fun e w' => e = .returned (.bool true) ∧ Chg (fun _ => False) w w' := by
  unfold maxLen at hcap
  have HYB : Hid (y < 18446744073709551616) := hy
  have HR : Hid (RdSl w 3 (.slice a n cap) (xs.map opC)) := hr
  have HX : Hid (∀ x ∈ xs, x.length = 3 ∧ ∀ m, x[1]? = some m → 0 ≤ m ∧ m ≤ 18446744073709551615) := hx
  have HN : Hid (n = xs.length) := hn
  clear hr hx hn hy
  go_enter Try.func6, Try.ntmps6
  go_wp2_with fail
  refine (new_any _).mono ?_
  rintro e w1 ⟨p, SA, rfl, hF, hS, hc⟩
  obtain ⟨w2, hw2⟩ : ∃ w2, w2 = w1.alloc (.cells #[.slice none 0 0, .int .u64 0] 53) := ⟨_, rfl⟩
  obtain ⟨xb, hxb⟩ : ∃ xb, xb = w1.heap.size := ⟨_, rfl⟩
  have hbd : (Instr.build 53 #[]).run Try.prog w1 = .ok (.agg #[.slice none 0 0, .int .u64 0]) w1 := run_build w1 53 _ _ (by kernel_rfl)
  have hbx : (Instr.box 53 (.agg #[.slice none 0 0, .int .u64 0])).run Try.prog w1 = .ok (.pointer (some ⟨xb, 0, none⟩)) w2 := by rw [hw2, hxb]; rfl
  have HI : Hid (LivesI w p (.pointer (some ⟨xb, 0, none⟩)) n 0 1 w2) := by
    have c2 : Chg (fun _ => False) w1 w2 := by rw [hw2]; exact (Chg.refl _ w1).alloc _
    refine ⟨(0, []), SA, fun k => k = w1.heap.size, by omega, by omega, by omega, ⟨by simp, by simp, fun a ha => by simp at ha⟩, ⟨hF.keep c2 fun _ _ h => h, by rw [hw2, hxb]; exact ref_new w1, fun k h1 h2 => ?_, fun k hk => ?_, hc.trans (c2.mono fun _ _ h => h.elim), fun k hk => hk.elim⟩⟩
    · have := hF.lt h1; omega
    · rcases hk with hk | hk
      · exact hS k hk
      · have := hc.size; omega
  clear hF hS hc hw2 hxb
  go_wp2_with (first
    | ((with_reducible refine Step.wpList_op (.build 53 #[]) rfl ?_); refine Step.wpList_run rfl _ w1 (Ex.build rfl hbd) ?_)
    | ((with_reducible refine Step.wpList_op (.box 53 (.tmp 23)) rfl ?_); refine Step.wpList_run rfl _ w2 (Ex.box rfl hbx) ?_))
  clear hbd hbx
  go_loopw [7, 8] (fun nx i wr => ∃ (k X : Nat), i = .int .i64 k ∧ nx = .int .u64 X ∧ LivesI w p (.pointer (some ⟨xb, 0, none⟩)) n k X wr) (fun _ i _ => n - (intOf i).toNat)
  case atStart => exact ⟨0, 1, rfl, rfl, HI.out⟩
  case round =>
    obtain ⟨k, X, rfl, rfl, hI⟩ := hrel
    obtain ⟨F, S, T, hk1, hk2, hx1, hB, hD⟩ := hI
    have HT : Hid (Duo w wr wr (fun _ => False) p (.pointer (some ⟨xb, 0, none⟩)) F F S T) := hD
    have HB : Hid (Bnd F k) := hB
    clear hD hB HI
    by_cases hkn : k < n
    · by_cases hk120 : k < 120
      · obtain ⟨z, hz⟩ : ∃ z, xs[k]? = some z := ⟨_, List.getElem?_eq_getElem (by rw [← HN.out]; exact hkn)⟩
        obtain ⟨z0, z1, N, hze, hzc⟩ := opC3 (HX.out z (List.mem_of_getElem? hz)).1
        have hz1 := (HX.out z (List.mem_of_getElem? hz)).2 z1 (by rw [hze]; rfl)
        obtain ⟨q, rfl⟩ : ∃ q : Nat, z1 = q := ⟨z1.toNat, by omega⟩
        have HQ : Hid (q < 18446744073709551616) := by unfold Hid; omega
        obtain ⟨g, o, c, hva, hra⟩ := HR.out.at (HT.out.chg.below (Nat.le_refl _) fun _ _ h => h.elim) (i := k) (x := opC z) (by rw [List.getElem?_map, hz]; rfl)
        have ea : a = some ⟨g, o, none⟩ := (Value.slice.inj hva).1
        subst ea
        rw [hzc] at hra
        have hc0 : wr.cell? ⟨g, o + k * 3, none⟩ = some (.int .i64 z0) := by have := hra 0 _ rfl; simpa using this
        have hc1 : wr.cell? ⟨g, o + k * 3 + 1, none⟩ = some (.int .u64 q) := hra 1 _ rfl
        have hc2 : wr.cell? ⟨g, o + k * 3 + 2, none⟩ = some (.int .i64 N) := hra 2 _ rfl
        obtain ⟨w0, hw0⟩ : ∃ w0, w0 = wr.alloc (.cells #[.int .i64 z0, .int .u64 q, .int .i64 N] 45) := ⟨_, rfl⟩
        have HW0 : Hid (w0 = wr.alloc (.cells #[.int .i64 z0, .int .u64 q, .int .i64 N] 45)) := hw0
        have HOB : Hid (w0.heap[wr.heap.size]? = some (.cells #[.int .i64 z0, .int .u64 q, .int .i64 N] 45)) := by unfold Hid; rw [hw0]; exact heap_alloc_new _ _
        have HT0 : Hid (Duo w w0 w0 (fun k => k = wr.heap.size) p (.pointer (some ⟨xb, 0, none⟩)) F F S T) := by
          have h1 : Duo w w0 wr (fun _ => False) p (.pointer (some ⟨xb, 0, none⟩)) F F S T := HT.out.stepN (by rw [hw0]; exact (Chg.refl _ wr).alloc _)
          exact h1.guard fun k hk => .inl ⟨(HT.out.fresh (by omega)).1, (HT.out.fresh (by omega)).2, by rw [hw0, hk]; simp⟩
        clear hva hra hze hzc hz hz1 hw0
        go_wp2_with fail
        · rw [← HW0.out]
          refine (watch_all HT0.out.a (by have := HB.out.last; omega)).mono ?_
          rintro e w8 ⟨rfl, S8, hF, hS, hc⟩
          have HT8 : Hid (Duo w w8 w0 (fun k => k = wr.heap.size) p (.pointer (some ⟨xb, 0, none⟩)) (watchF F) F S8 T) := HT0.out.stepA hF hS hc
          clear hF hS hc HT0
          go_wp2_with fail
          refine (rwatch_all HT8.out.b (by have := HB.out.last; omega)).mono ?_
          rintro e w9 ⟨rfl, T9, hF, hS, hc⟩
          have HTt : Hid (Duo w w9 w9 (fun _ => False) p (.pointer (some ⟨xb, 0, none⟩)) (watchF F) (watchF F) S8 T9) := (HT8.out.stepB hF hS hc).guard fun k h => h.elim
          have HBt : Hid (Bnd (watchF F) (k + 1)) := HB.out.watch
          obtain ⟨aw, haw⟩ : ∃ aw, aw = watchId F := ⟨_, rfl⟩
          obtain ⟨ew, hew⟩ : ∃ ew, ew = watchErr F := ⟨_, rfl⟩
          rw [← haw, ← hew]
          clear hF hS hc HT8 haw hew
          go_wp2_with fail
          refine (watchers_is HTt.out.a HBt.out.len).mono ?_
          rintro e w20 ⟨v20, rfl, hsl, hnew, hc⟩
          have HT20 : Hid (Duo w w20 w20 (fun k => v20.ownBlock = some k) p (.pointer (some ⟨xb, 0, none⟩)) (watchF F) (watchF F) _ _) := (HTt.out.stepN hc).guard fun k hk => .inl ⟨(HTt.out.fresh (hnew k hk)).1, (HTt.out.fresh (hnew k hk)).2, hsl.lt hk⟩
          obtain ⟨av, cv, hv, _⟩ := Sl.shape2 hsl
          obtain ⟨L, hL⟩ : ∃ L, L = (watchF F).2.length := ⟨_, rfl⟩
          obtain ⟨ax, cx, hcx, hl8, hat⟩ := ref_open HT20.out.b
          rw [List.length_map, ← hL] at hv
          subst hv
          rw [← hL] at hcx hl8
          have HAT : Hid (∀ (j : Nat) (y : AR), (watchF F).2[j]? = some y → ∃ g o, ax = some ⟨g, o, none⟩ ∧ w20.cell? ⟨g, o + j * 3, none⟩ = some (.int .u64 y.1)) := hat
          have HSV : Hid (Sl w20 25 1 (.slice av L cv) ((watchF F).2.map fun a : AR => [Value.int .u64 (a.1 : Int)])) := hsl
          have HLL : Hid (L = (watchF F).2.length) := hL
          clear hsl hnew hc hat hL HTt
          go_wp2_with fail
          refine (waits_all HT20.out.a y HYB.out).mono ?_
          rintro e w21 ⟨rfl, hw⟩
          rw [hw]
          clear hw w21
          go_wp2_with fail
          refine (rwaits_all HT20.out.b y).mono ?_
          rintro e w21 ⟨rfl, hw⟩
          rw [hw]
          clear hw w21
          go_wp2_with fail
          go_loopw [21] (fun i wr2 => ∃ j : Nat, j ≤ L ∧ i = .int .i64 j ∧ Chg (fun _ => False) w20 wr2) (fun i _ => L - (intOf i).toNat)
          case atStart => exact ⟨0, Nat.zero_le _, rfl, Chg.refl _ _⟩
          case round =>
            obtain ⟨j, hj, rfl, hch⟩ := hrel
            have HCH : Hid (Chg (fun _ => False) w20 wr) := hch
            clear hch
            by_cases hjL : j < L
            · obtain ⟨yy, hyy⟩ : ∃ yy, (watchF F).2[j]? = some yy := ⟨_, List.getElem?_eq_getElem (by rw [← HLL.out]; exact hjL)⟩
              obtain ⟨g2, o2, rfl, hcy⟩ := HAT.out j yy hyy
              obtain ⟨gv, ov, cv', hvv, hrv⟩ := HSV.out.at (i := j) (x := [.int .u64 (yy.1 : Int)]) (by rw [List.getElem?_map, hyy]; rfl)
              have hav : av = some ⟨gv, ov, none⟩ := (Value.slice.inj hvv).1
              subst hav
              obtain ⟨W0, hW0⟩ : ∃ W0, W0 = wr.drew := ⟨_, rfl⟩
              have cW0 : Chg (fun _ => False) w20 W0 := by rw [hW0]; exact HCH.out.drew
              have hB0 := cW0.below (B := w20.heap.size) (Nat.le_refl _) fun _ _ h => h.elim
              have hlx : (Instr.loadAt 51 (.pointer (some ⟨xb, 0, none⟩))).run Try.prog W0 = .ok (.slice (some ⟨g2, o2, none⟩) L cx) W0 := Ex.load1 Try.underlying51 rfl (by rw [hB0.cell (cell_lt hcx)]; exact hcx)
              have hlr : (Instr.loadAt 25 (.pointer (some ⟨g2, o2 + j * 3, none⟩))).run Try.prog W0 = .ok (.int .u64 yy.1) W0 := Ex.load1 Try.underlying25 rfl (by rw [hB0.cell (cell_lt hcy)]; exact hcy)
              have hcv : w20.cell? ⟨gv, ov + j * 1, none⟩ = some (.int .u64 yy.1) := by have := hrv 0 _ rfl; simpa using this
              have hlv : (Instr.loadAt 25 (.pointer (some ⟨gv, ov + j * 1, none⟩))).run Try.prog W0 = .ok (.int .u64 yy.1) W0 := Ex.load1 Try.underlying25 rfl (by rw [hB0.cell (cell_lt hcv)]; exact hcv)
              have hiv := index63 W0 gv ov L cv j hjL
              have hix := index51 W0 g2 o2 L cx j hjL
              have hneq := neq_u64 (yy.1 : Int) W0
              have HW0 : Hid (W0 = wr.drew) := hW0
              have HCW : Hid (Chg (fun _ => False) w20 W0) := cW0
              clear hyy hcy hvv hrv hW0 cW0 hB0 hcv hcx
              go_wp2_with fail
              refine Go.Drawn.wp_region_chain [[], [], [0, 1], [0, 1, 2], [], [4], [4, 5], [4, 5, 6], [], [4, 5, 6, 7, 8], [4, 5, 6, 7, 8, 9], [4, 5, 6, 7, 8, 9, 10], [0, 1, 2, 3, 4, 5, 6, 7, 8, 9, 10, 11]] [.slice (some ⟨gv, ov, none⟩) L cv, .int .i64 j, .pointer (some ⟨gv, ov + j * 1, none⟩), .int .u64 yy.1, .pointer (some ⟨xb, 0, none⟩), .pointer (some ⟨xb, 0, none⟩), .pointer (some ⟨xb, 0, none⟩), .slice (some ⟨g2, o2, none⟩) L cx, .int .i64 j, .pointer (some ⟨g2, o2 + j * 3, none⟩), .pointer (some ⟨g2, o2 + j * 3, none⟩), .int .u64 yy.1, .bool false] (fun k => ([W0] : List World).getD k (W0)) [] [[0], [0], [0], [0], [0], [0], [0], [0], [0], [0], [0], [0], [0]] (by kernel_rfl) (by kernel_rfl) (by kernel_rfl) (by kernel_rfl) (by kernel_rfl) (by kernel_rfl) ?_ ?_ ?_
              · exact HW0.out
              · exact ⟨⟨(.val (by kernel_rfl) (by kernel_rfl)), trivial⟩,
      ⟨(.val (by kernel_rfl) (by kernel_rfl)), trivial⟩,
      ⟨(.val (by kernel_rfl) (Ex.indexAddr rfl hiv)), trivial⟩,
      ⟨(.val (by kernel_rfl) (Ex.load rfl hlv)), trivial⟩,
      ⟨(.val (by kernel_rfl) (by kernel_rfl)), trivial⟩,
      ⟨(.val (by kernel_rfl) (by kernel_rfl)), trivial⟩,
      ⟨(.val (by kernel_rfl) (by kernel_rfl)), trivial⟩,
      ⟨(.val (by kernel_rfl) (Ex.load rfl hlx)), trivial⟩,
      ⟨(.val (by kernel_rfl) (by kernel_rfl)), trivial⟩,
      ⟨(.val (by kernel_rfl) (Ex.indexAddr rfl hix)), trivial⟩,
      ⟨(.val (by kernel_rfl) (by kernel_rfl)), trivial⟩,
      ⟨(.val (by kernel_rfl) (Ex.load rfl hlr)), trivial⟩,
      ⟨(.val (by kernel_rfl) (Ex.bin_int rfl rfl rfl hneq)), trivial⟩,
      trivial⟩
              simp only [Go.Drawn.putAll, Act.put, List.getD_cons_zero, List.getD_cons_succ, List.setIfInBounds_toArray, List.set_cons_zero, List.set_cons_succ, List.length_nil]
              clear hlx hlr hlv hiv hix hneq
              go_wp2_with fail
              refine ⟨⟨j + 1, by omega, by go_num, HCW.out⟩, ?_⟩
              simp [intOf]; omega
            · have hj' : j = L := by omega
              have HJ : Hid (j = L) := hj'
              clear hj'
              go_wp2_with fail
              refine ⟨⟨k + 1, X, by go_num, rfl, watchF F, _, _, by omega, by omega, by omega, HBt.out, (HT20.out.stepN HCH.out).guard fun k h => h.elim⟩, ?_⟩
              simp [intOf]; omega
        · rw [← HW0.out]
          obtain ⟨b, hb⟩ : ∃ b, b = hasF F q := ⟨_, rfl⟩
          have HBV : Hid (b = hasF F q) := hb
          have hR0 : LeaveR w w0 wr.heap.size p (.pointer (some ⟨xb, 0, none⟩)) F q 0 w0.drew := ⟨S, T, HT0.out.stepN ((Chg.refl _ w0).drew)⟩
          have hld : ∀ W k, LeaveR w w0 wr.heap.size p (.pointer (some ⟨xb, 0, none⟩)) F q k W → (Instr.loadAt 25 (.pointer (some ⟨wr.heap.size, 1, none⟩))).run Try.prog W = .ok (.int .u64 q) W := fun W k hR => by
            obtain ⟨S', T', hD⟩ := hR
            have h1 := (hD.kept wr.heap.size rfl).2.2.2.trans HOB.out
            exact Ex.load1 Try.underlying25 rfl (by simp [World.cell?, h1])
          clear hb
          refine Go.Drawn.wp_region_rel [[], [], [1], [0, 1, 2], [], [], [5], [0, 1, 2, 3, 4, 5, 6], [0, 1, 2, 3, 4, 5, 6, 7]] [p, .pointer (some ⟨wr.heap.size, 1, none⟩), .int .u64 q, .bool b, .pointer (some ⟨xb, 0, none⟩), .pointer (some ⟨wr.heap.size, 1, none⟩), .int .u64 q, .bool b, .bool false] (LeaveR w w0 wr.heap.size p (.pointer (some ⟨xb, 0, none⟩)) F q) [3, 7] [[0], [0], [0], [0], [0, 1], [0, 1], [0, 1], [1], [2]] (by kernel_rfl) (by kernel_rfl) (by kernel_rfl) (by kernel_rfl) (by kernel_rfl) (by kernel_rfl) ?_ ?_ ?_
          · exact hR0
          · exact ⟨⟨(.pure (by kernel_rfl) (fun _ => by kernel_rfl)), trivial⟩,
      ⟨(.pure (by kernel_rfl) (fun _ => by kernel_rfl)), trivial⟩,
      ⟨(.val (by kernel_rfl) (fun W hR => Ex.load rfl (hld W _ hR))), trivial⟩,
      ⟨(.call (by kernel_rfl) (fun _ => by kernel_rfl) (fun W hR => leaveA HQ.out HBV.out hR)), trivial⟩,
      ⟨(.pure (by kernel_rfl) (fun _ => by kernel_rfl)), (.pure (by kernel_rfl) (fun _ => by kernel_rfl)), trivial⟩,
      ⟨(.pure (by kernel_rfl) (fun _ => by kernel_rfl)), (.pure (by kernel_rfl) (fun _ => by kernel_rfl)), trivial⟩,
      ⟨(.val (by kernel_rfl) (fun W hR => Ex.load rfl (hld W _ hR))), (.val (by kernel_rfl) (fun W hR => Ex.load rfl (hld W _ hR))), trivial⟩,
      ⟨(.call (by kernel_rfl) (fun _ => by kernel_rfl) (fun W hR => leaveB HBV.out hR)), trivial⟩,
      ⟨(.pure (by kernel_rfl) (fun W => by cases b <;> kernel_rfl)), trivial⟩,
      trivial⟩
          intro wq hRq
          simp only [Go.Drawn.putAll, Act.put, List.getD_cons_zero, List.getD_cons_succ, List.setIfInBounds_toArray, List.set_cons_zero, List.set_cons_succ]
          obtain ⟨S9, T9, hD⟩ := hRq
          have HTt : Hid (Duo w wq wq (fun _ => False) p (.pointer (some ⟨xb, 0, none⟩)) (goneF F q) (goneF F q) S9 T9) := hD.guard fun k h => h.elim
          have HBt : Hid (Bnd (goneF F q) (k + 1)) := HB.out.leave q
          clear hD hld hR0 HT0
          go_wp2_with fail
          refine (watchers_is HTt.out.a HBt.out.len).mono ?_
          rintro e w20 ⟨v20, rfl, hsl, hnew, hc⟩
          have HT20 : Hid (Duo w w20 w20 (fun k => v20.ownBlock = some k) p (.pointer (some ⟨xb, 0, none⟩)) (goneF F q) (goneF F q) _ _) := (HTt.out.stepN hc).guard fun k hk => .inl ⟨(HTt.out.fresh (hnew k hk)).1, (HTt.out.fresh (hnew k hk)).2, hsl.lt hk⟩
          obtain ⟨av, cv, hv, _⟩ := Sl.shape2 hsl
          obtain ⟨L, hL⟩ : ∃ L, L = (goneF F q).2.length := ⟨_, rfl⟩
          obtain ⟨ax, cx, hcx, hl8, hat⟩ := ref_open HT20.out.b
          rw [List.length_map, ← hL] at hv
          subst hv
          rw [← hL] at hcx hl8
          have HAT : Hid (∀ (j : Nat) (y : AR), (goneF F q).2[j]? = some y → ∃ g o, ax = some ⟨g, o, none⟩ ∧ w20.cell? ⟨g, o + j * 3, none⟩ = some (.int .u64 y.1)) := hat
          have HSV : Hid (Sl w20 25 1 (.slice av L cv) ((goneF F q).2.map fun a : AR => [Value.int .u64 (a.1 : Int)])) := hsl
          have HLL : Hid (L = (goneF F q).2.length) := hL
          clear hsl hnew hc hat hL HTt
          go_wp2_with fail
          refine (waits_all HT20.out.a y HYB.out).mono ?_
          rintro e w21 ⟨rfl, hw⟩
          rw [hw]
          clear hw w21
          go_wp2_with fail
          refine (rwaits_all HT20.out.b y).mono ?_
          rintro e w21 ⟨rfl, hw⟩
          rw [hw]
          clear hw w21
          go_wp2_with fail
          go_loopw [21] (fun i wr2 => ∃ j : Nat, j ≤ L ∧ i = .int .i64 j ∧ Chg (fun _ => False) w20 wr2) (fun i _ => L - (intOf i).toNat)
          case atStart => exact ⟨0, Nat.zero_le _, rfl, Chg.refl _ _⟩
          case round =>
            obtain ⟨j, hj, rfl, hch⟩ := hrel
            have HCH : Hid (Chg (fun _ => False) w20 wr) := hch
            clear hch
            by_cases hjL : j < L
            · obtain ⟨yy, hyy⟩ : ∃ yy, (goneF F q).2[j]? = some yy := ⟨_, List.getElem?_eq_getElem (by rw [← HLL.out]; exact hjL)⟩
              obtain ⟨g2, o2, rfl, hcy⟩ := HAT.out j yy hyy
              obtain ⟨gv, ov, cv', hvv, hrv⟩ := HSV.out.at (i := j) (x := [.int .u64 (yy.1 : Int)]) (by rw [List.getElem?_map, hyy]; rfl)
              have hav : av = some ⟨gv, ov, none⟩ := (Value.slice.inj hvv).1
              subst hav
              obtain ⟨W0, hW0⟩ : ∃ W0, W0 = wr.drew := ⟨_, rfl⟩
              have cW0 : Chg (fun _ => False) w20 W0 := by rw [hW0]; exact HCH.out.drew
              have hB0 := cW0.below (B := w20.heap.size) (Nat.le_refl _) fun _ _ h => h.elim
              have hlx : (Instr.loadAt 51 (.pointer (some ⟨xb, 0, none⟩))).run Try.prog W0 = .ok (.slice (some ⟨g2, o2, none⟩) L cx) W0 := Ex.load1 Try.underlying51 rfl (by rw [hB0.cell (cell_lt hcx)]; exact hcx)
              have hlr : (Instr.loadAt 25 (.pointer (some ⟨g2, o2 + j * 3, none⟩))).run Try.prog W0 = .ok (.int .u64 yy.1) W0 := Ex.load1 Try.underlying25 rfl (by rw [hB0.cell (cell_lt hcy)]; exact hcy)
              have hcv : w20.cell? ⟨gv, ov + j * 1, none⟩ = some (.int .u64 yy.1) := by have := hrv 0 _ rfl; simpa using this
              have hlv : (Instr.loadAt 25 (.pointer (some ⟨gv, ov + j * 1, none⟩))).run Try.prog W0 = .ok (.int .u64 yy.1) W0 := Ex.load1 Try.underlying25 rfl (by rw [hB0.cell (cell_lt hcv)]; exact hcv)
              have hiv := index63 W0 gv ov L cv j hjL
              have hix := index51 W0 g2 o2 L cx j hjL
              have hneq := neq_u64 (yy.1 : Int) W0
              have HW0 : Hid (W0 = wr.drew) := hW0
              have HCW : Hid (Chg (fun _ => False) w20 W0) := cW0
              clear hyy hcy hvv hrv hW0 cW0 hB0 hcv hcx
              go_wp2_with fail
              refine Go.Drawn.wp_region_chain [[], [], [0, 1], [0, 1, 2], [], [4], [4, 5], [4, 5, 6], [], [4, 5, 6, 7, 8], [4, 5, 6, 7, 8, 9], [4, 5, 6, 7, 8, 9, 10], [0, 1, 2, 3, 4, 5, 6, 7, 8, 9, 10, 11]] [.slice (some ⟨gv, ov, none⟩) L cv, .int .i64 j, .pointer (some ⟨gv, ov + j * 1, none⟩), .int .u64 yy.1, .pointer (some ⟨xb, 0, none⟩), .pointer (some ⟨xb, 0, none⟩), .pointer (some ⟨xb, 0, none⟩), .slice (some ⟨g2, o2, none⟩) L cx, .int .i64 j, .pointer (some ⟨g2, o2 + j * 3, none⟩), .pointer (some ⟨g2, o2 + j * 3, none⟩), .int .u64 yy.1, .bool false] (fun k => ([W0] : List World).getD k (W0)) [] [[0], [0], [0], [0], [0], [0], [0], [0], [0], [0], [0], [0], [0]] (by kernel_rfl) (by kernel_rfl) (by kernel_rfl) (by kernel_rfl) (by kernel_rfl) (by kernel_rfl) ?_ ?_ ?_
              · exact HW0.out
              · exact ⟨⟨(.val (by kernel_rfl) (by kernel_rfl)), trivial⟩,
      ⟨(.val (by kernel_rfl) (by kernel_rfl)), trivial⟩,
      ⟨(.val (by kernel_rfl) (Ex.indexAddr rfl hiv)), trivial⟩,
      ⟨(.val (by kernel_rfl) (Ex.load rfl hlv)), trivial⟩,
      ⟨(.val (by kernel_rfl) (by kernel_rfl)), trivial⟩,
      ⟨(.val (by kernel_rfl) (by kernel_rfl)), trivial⟩,
      ⟨(.val (by kernel_rfl) (by kernel_rfl)), trivial⟩,
      ⟨(.val (by kernel_rfl) (Ex.load rfl hlx)), trivial⟩,
      ⟨(.val (by kernel_rfl) (by kernel_rfl)), trivial⟩,
      ⟨(.val (by kernel_rfl) (Ex.indexAddr rfl hix)), trivial⟩,
      ⟨(.val (by kernel_rfl) (by kernel_rfl)), trivial⟩,
      ⟨(.val (by kernel_rfl) (Ex.load rfl hlr)), trivial⟩,
      ⟨(.val (by kernel_rfl) (Ex.bin_int rfl rfl rfl hneq)), trivial⟩,
      trivial⟩
              simp only [Go.Drawn.putAll, Act.put, List.getD_cons_zero, List.getD_cons_succ, List.setIfInBounds_toArray, List.set_cons_zero, List.set_cons_succ, List.length_nil]
              clear hlx hlr hlv hiv hix hneq
              go_wp2_with fail
              refine ⟨⟨j + 1, by omega, by go_num, HCW.out⟩, ?_⟩
              simp [intOf]; omega
            · have hj' : j = L := by omega
              have HJ : Hid (j = L) := hj'
              clear hj'
              go_wp2_with fail
              refine ⟨⟨k + 1, X, by go_num, rfl, goneF F q, _, _, by omega, by omega, by omega, HBt.out, (HT20.out.stepN HCH.out).guard fun k h => h.elim⟩, ?_⟩
              simp [intOf]; omega
        · rw [← HW0.out]
          refine (events_is X N _ (by omega)).mono ?_
          rintro e w8 ⟨v, rfl, hsl, hnew, hb⟩
          obtain ⟨m, hm⟩ : ∃ m, m = min N.toNat 40 := ⟨_, rfl⟩
          rw [← hm] at hsl
          have hm40 : m ≤ 40 := by omega
          have h8 := HT0.out.stepN ((Chg.of_below hb).mono (T := fun _ => False) fun k h1 h2 => by omega)
          have HT9 : Hid (Duo w w8 w8 (fun k => v.ownBlock = some k) p (.pointer (some ⟨xb, 0, none⟩)) F F S T) := h8.guard fun k hk => .inl ⟨(HT0.out.fresh (hnew k hk)).1, (HT0.out.fresh (hnew k hk)).2, hsl.lt hk⟩
          obtain ⟨a6, c6, hv6, _⟩ := Sl.shape2 hsl
          rw [List.length_map, evs_length] at hv6
          subst hv6
          have HSL : Hid (Sl w8 38 34 (.slice a6 m c6) ((evs X m).map Ev.cells)) := hsl
          have HNEW : Hid (∀ k, (Value.slice a6 m c6).ownBlock = some k → w.heap.size ≤ k) := fun k hk => Nat.le_trans HT0.out.chg.size (hnew k hk)
          have HLO : Hid (∀ a ∈ F.2, a.2.2 + 40 < 1000000) := fun a ha => by have := HB.out.lost a ha; omega
          clear hsl hnew hb h8 HT0 hm hc0 hc1 hc2
          go_wp2_with fail
          refine (push_is HT9.out.a _ (evs X m) HSL.out (by rw [evs_length]; omega) HLO.out).mono ?_
          rintro e w9 ⟨rfl, S9, hF, hS, hc⟩
          have HT10 : Hid (Duo w w9 w8 (fun k => (Value.slice a6 m c6).ownBlock = some k) p (.pointer (some ⟨xb, 0, none⟩)) (F.1, F.2.map (pushA (evs X m))) F S9 T) := HT9.out.stepA hF hS hc
          have HSL9 : Hid (Sl w9 38 34 (.slice a6 m c6) ((evs X m).map Ev.cells)) := HSL.out.keep fun k hk => (HT10.out.kept k hk).2.2.2
          clear hF hS hc HT9
          go_wp2_with fail
          refine (revents_any _ (evs X m) _ HSL9.out (by rw [evs_length]; omega)).mono ?_
          rintro e w10 ⟨v2, rfl, hsl2, hnew2, hc⟩
          have HT11 : Hid (Duo w w10 w8 (fun k => (Value.slice a6 m c6).ownBlock = some k) p (.pointer (some ⟨xb, 0, none⟩)) (F.1, F.2.map (pushA (evs X m))) F S9 T) := HT10.out.stepN hc
          have HSL2 : Hid (Sl w10 78 34 v2 ((evs X m).map Ev.cells)) := hsl2
          clear hsl2 hnew2 hc HT10 HSL9
          go_wp2_with fail
          refine (rpush_is HT11.out.b v2 (evs X m) HSL2.out (by rw [evs_length]; omega) HLO.out).mono ?_
          rintro e w11 ⟨rfl, T11, hF, hS, hc⟩
          have HT12 : Hid (Duo w w11 w8 (fun k => (Value.slice a6 m c6).ownBlock = some k) p (.pointer (some ⟨xb, 0, none⟩)) (F.1, F.2.map (pushA (evs X m))) (F.1, F.2.map (pushA (evs X m))) S9 T11) := HT11.out.stepB hF hS hc
          have HSL12 : Hid (Sl w11 38 34 (.slice a6 m c6) ((evs X m).map Ev.cells)) := HSL.out.keep fun k hk => (HT12.out.kept k hk).2.2.2
          have HBt : Hid (Bnd (F.1, F.2.map (pushA (evs X m))) (k + 1)) := HB.out.push _ (by rw [evs_length]; exact hm40)
          clear hF hS hc HT11 HSL HSL2
          go_wp2_with fail
          go_loopw [15] (fun i wr2 => ∃ j : Nat, j ≤ m ∧ i = .int .i64 j ∧ (∀ g o, a6 = some ⟨g, o, none⟩ → ∃ cur, wr2.heap[g]? = some (.cells cur 38 (0, 0)) ∧ o + m * 34 ≤ cur.size) ∧ Chg (fun q => (Value.slice a6 m c6).ownBlock = some q) w11 wr2) (fun i _ => m - (intOf i).toNat)
          case atStart =>
            refine ⟨0, Nat.zero_le _, rfl, fun g o hg => ?_, Chg.refl _ _⟩
            rcases HSL12.out.2 with ⟨hv, _⟩ | ⟨g', o', cap', cur, hv, hh, hnc, _, hfit, _⟩
            · rw [hg] at hv; cases hv
            · have hv1 := (Value.slice.inj hv).1
              have hv2 := (Value.slice.inj hv).2.2
              rw [hg] at hv1
              cases hv1
              refine ⟨cur, hh, Nat.le_trans (Nat.add_le_add_left (Nat.mul_le_mul_right _ ?_) _) hfit⟩
              have h1 := (Value.slice.inj hv).2.1
              omega
          case round =>
            obtain ⟨j, hj, rfl, hcu, hch⟩ := hrel
            have HCU : Hid (∀ g o, a6 = some ⟨g, o, none⟩ → ∃ cur, wr.heap[g]? = some (.cells cur 38 (0, 0)) ∧ o + m * 34 ≤ cur.size) := hcu
            have HCH : Hid (Chg (fun q => (Value.slice a6 m c6).ownBlock = some q) w11 wr) := hch
            clear hcu hch
            by_cases hjm : j < m
            · obtain ⟨gg, oo, ha6⟩ : ∃ gg oo, a6 = some ⟨gg, oo, none⟩ := by
                obtain ⟨gg, oo, _, hvv, _⟩ := HSL12.out.at (i := j) (x := (evAt X j).cells) (by rw [List.getElem?_map]; unfold evs; rw [List.getElem?_map, List.getElem?_range hjm]; rfl)
                exact ⟨gg, oo, (Value.slice.inj hvv).1⟩
              subst ha6
              obtain ⟨cur, hcu, hcs⟩ := HCU.out gg oo rfl
              have hlt : oo + j * 34 + 33 < cur.size := by have : (j + 1) * 34 ≤ m * 34 := Nat.mul_le_mul_right _ hjm; omega
              obtain ⟨u, hu⟩ : ∃ u, wr.cell? ⟨gg, oo + j * 34 + 33, none⟩ = some u := ⟨_, by simp only [World.cell?, hcu]; exact Array.getElem?_eq_getElem hlt⟩
              have hfz : wr.frozen? ⟨gg, oo + j * 34 + 33, none⟩ = false := by simp [World.frozen?, hcu]
              have HNX : Hid (∃ cur, (wr.setCell ⟨gg, oo + j * 34 + 33, none⟩ (.int .u64 0)).heap[gg]? = some (.cells cur 38 (0, 0)) ∧ oo + m * 34 ≤ cur.size) := by
                refine ⟨cur.setIfInBounds (oo + j * 34 + 33) (.int .u64 0), ?_, by simpa using hcs⟩
                simp only [World.setCell, Array.getElem?_modify, hcu]
                simp
              have HCN : Hid (Chg (fun q => (Value.slice (some ⟨gg, oo, none⟩) m c6).ownBlock = some q) w11 (wr.setCell ⟨gg, oo + j * 34 + 33, none⟩ (.int .u64 0))) := HCH.out.setCell (p := ⟨gg, oo + j * 34 + 33, none⟩) (.inl rfl) _
              clear hcu hcs hlt
              go_wp2_with fail
              refine ⟨⟨j + 1, by omega, by go_num, fun g o hg => ?_, HCN.out⟩, ?_⟩
              · cases hg; exact HNX.out
              · simp [intOf]; omega
            · have hj' : j = m := by omega
              have HJ : Hid (j = m) := hj'
              have HTt : Hid (Duo w wr wr (fun _ => False) p (.pointer (some ⟨xb, 0, none⟩)) (F.1, F.2.map (pushA (evs X m))) (F.1, F.2.map (pushA (evs X m))) S9 T11) :=
                HT12.out.stepO HCH.out fun q hq => ⟨(HT12.out.kept q hq).1, (HT12.out.kept q hq).2.1, HNEW.out q hq⟩
              clear hj' HT12
              go_wp2_with fail
              refine (watchers_is HTt.out.a HBt.out.len).mono ?_
              rintro e w20 ⟨v20, rfl, hsl, hnew, hc⟩
              have HT20 : Hid (Duo w w20 w20 (fun k => v20.ownBlock = some k) p (.pointer (some ⟨xb, 0, none⟩)) ((F.1, F.2.map (pushA (evs X m)))) ((F.1, F.2.map (pushA (evs X m)))) _ _) := (HTt.out.stepN hc).guard fun k hk => .inl ⟨(HTt.out.fresh (hnew k hk)).1, (HTt.out.fresh (hnew k hk)).2, hsl.lt hk⟩
              obtain ⟨av, cv, hv, _⟩ := Sl.shape2 hsl
              obtain ⟨L, hL⟩ : ∃ L, L = ((F.1, F.2.map (pushA (evs X m)))).2.length := ⟨_, rfl⟩
              obtain ⟨ax, cx, hcx, hl8, hat⟩ := ref_open HT20.out.b
              rw [List.length_map, ← hL] at hv
              subst hv
              rw [← hL] at hcx hl8
              have HAT : Hid (∀ (j : Nat) (y : AR), ((F.1, F.2.map (pushA (evs X m)))).2[j]? = some y → ∃ g o, ax = some ⟨g, o, none⟩ ∧ w20.cell? ⟨g, o + j * 3, none⟩ = some (.int .u64 y.1)) := hat
              have HSV : Hid (Sl w20 25 1 (.slice av L cv) (((F.1, F.2.map (pushA (evs X m)))).2.map fun a : AR => [Value.int .u64 (a.1 : Int)])) := hsl
              have HLL : Hid (L = ((F.1, F.2.map (pushA (evs X m)))).2.length) := hL
              clear hsl hnew hc hat hL HTt
              go_wp2_with fail
              refine (waits_all HT20.out.a y HYB.out).mono ?_
              rintro e w21 ⟨rfl, hw⟩
              rw [hw]
              clear hw w21
              go_wp2_with fail
              refine (rwaits_all HT20.out.b y).mono ?_
              rintro e w21 ⟨rfl, hw⟩
              rw [hw]
              clear hw w21
              go_wp2_with fail
              go_loopw [21] (fun i wr2 => ∃ j : Nat, j ≤ L ∧ i = .int .i64 j ∧ Chg (fun _ => False) w20 wr2) (fun i _ => L - (intOf i).toNat)
              case atStart => exact ⟨0, Nat.zero_le _, rfl, Chg.refl _ _⟩
              case round =>
                obtain ⟨j, hj, rfl, hch⟩ := hrel
                have HCH : Hid (Chg (fun _ => False) w20 wr) := hch
                clear hch
                by_cases hjL : j < L
                · obtain ⟨yy, hyy⟩ : ∃ yy, ((F.1, F.2.map (pushA (evs X m)))).2[j]? = some yy := ⟨_, List.getElem?_eq_getElem (by rw [← HLL.out]; exact hjL)⟩
                  obtain ⟨g2, o2, rfl, hcy⟩ := HAT.out j yy hyy
                  obtain ⟨gv, ov, cv', hvv, hrv⟩ := HSV.out.at (i := j) (x := [.int .u64 (yy.1 : Int)]) (by rw [List.getElem?_map, hyy]; rfl)
                  have hav : av = some ⟨gv, ov, none⟩ := (Value.slice.inj hvv).1
                  subst hav
                  obtain ⟨W0, hW0⟩ : ∃ W0, W0 = wr.drew := ⟨_, rfl⟩
                  have cW0 : Chg (fun _ => False) w20 W0 := by rw [hW0]; exact HCH.out.drew
                  have hB0 := cW0.below (B := w20.heap.size) (Nat.le_refl _) fun _ _ h => h.elim
                  have hlx : (Instr.loadAt 51 (.pointer (some ⟨xb, 0, none⟩))).run Try.prog W0 = .ok (.slice (some ⟨g2, o2, none⟩) L cx) W0 := Ex.load1 Try.underlying51 rfl (by rw [hB0.cell (cell_lt hcx)]; exact hcx)
                  have hlr : (Instr.loadAt 25 (.pointer (some ⟨g2, o2 + j * 3, none⟩))).run Try.prog W0 = .ok (.int .u64 yy.1) W0 := Ex.load1 Try.underlying25 rfl (by rw [hB0.cell (cell_lt hcy)]; exact hcy)
                  have hcv : w20.cell? ⟨gv, ov + j * 1, none⟩ = some (.int .u64 yy.1) := by have := hrv 0 _ rfl; simpa using this
                  have hlv : (Instr.loadAt 25 (.pointer (some ⟨gv, ov + j * 1, none⟩))).run Try.prog W0 = .ok (.int .u64 yy.1) W0 := Ex.load1 Try.underlying25 rfl (by rw [hB0.cell (cell_lt hcv)]; exact hcv)
                  have hiv := index63 W0 gv ov L cv j hjL
                  have hix := index51 W0 g2 o2 L cx j hjL
                  have hneq := neq_u64 (yy.1 : Int) W0
                  have HW0 : Hid (W0 = wr.drew) := hW0
                  have HCW : Hid (Chg (fun _ => False) w20 W0) := cW0
                  clear hyy hcy hvv hrv hW0 cW0 hB0 hcv hcx
                  go_wp2_with fail
                  refine Go.Drawn.wp_region_chain [[], [], [0, 1], [0, 1, 2], [], [4], [4, 5], [4, 5, 6], [], [4, 5, 6, 7, 8], [4, 5, 6, 7, 8, 9], [4, 5, 6, 7, 8, 9, 10], [0, 1, 2, 3, 4, 5, 6, 7, 8, 9, 10, 11]] [.slice (some ⟨gv, ov, none⟩) L cv, .int .i64 j, .pointer (some ⟨gv, ov + j * 1, none⟩), .int .u64 yy.1, .pointer (some ⟨xb, 0, none⟩), .pointer (some ⟨xb, 0, none⟩), .pointer (some ⟨xb, 0, none⟩), .slice (some ⟨g2, o2, none⟩) L cx, .int .i64 j, .pointer (some ⟨g2, o2 + j * 3, none⟩), .pointer (some ⟨g2, o2 + j * 3, none⟩), .int .u64 yy.1, .bool false] (fun k => ([W0] : List World).getD k (W0)) [] [[0], [0], [0], [0], [0], [0], [0], [0], [0], [0], [0], [0], [0]] (by kernel_rfl) (by kernel_rfl) (by kernel_rfl) (by kernel_rfl) (by kernel_rfl) (by kernel_rfl) ?_ ?_ ?_
                  · exact HW0.out
                  · exact ⟨⟨(.val (by kernel_rfl) (by kernel_rfl)), trivial⟩,
      ⟨(.val (by kernel_rfl) (by kernel_rfl)), trivial⟩,
      ⟨(.val (by kernel_rfl) (Ex.indexAddr rfl hiv)), trivial⟩,
      ⟨(.val (by kernel_rfl) (Ex.load rfl hlv)), trivial⟩,
      ⟨(.val (by kernel_rfl) (by kernel_rfl)), trivial⟩,
      ⟨(.val (by kernel_rfl) (by kernel_rfl)), trivial⟩,
      ⟨(.val (by kernel_rfl) (by kernel_rfl)), trivial⟩,
      ⟨(.val (by kernel_rfl) (Ex.load rfl hlx)), trivial⟩,
      ⟨(.val (by kernel_rfl) (by kernel_rfl)), trivial⟩,
      ⟨(.val (by kernel_rfl) (Ex.indexAddr rfl hix)), trivial⟩,
      ⟨(.val (by kernel_rfl) (by kernel_rfl)), trivial⟩,
      ⟨(.val (by kernel_rfl) (Ex.load rfl hlr)), trivial⟩,
      ⟨(.val (by kernel_rfl) (Ex.bin_int rfl rfl rfl hneq)), trivial⟩,
      trivial⟩
                  simp only [Go.Drawn.putAll, Act.put, List.getD_cons_zero, List.getD_cons_succ, List.setIfInBounds_toArray, List.set_cons_zero, List.set_cons_succ, List.length_nil]
                  clear hlx hlr hlv hiv hix hneq
                  go_wp2_with fail
                  refine ⟨⟨j + 1, by omega, by go_num, HCW.out⟩, ?_⟩
                  simp [intOf]; omega
                · have hj' : j = L := by omega
                  have HJ : Hid (j = L) := hj'
                  clear hj'
                  go_wp2_with fail
                  refine ⟨⟨k + 1, (X + m), by go_num, rfl, (F.1, F.2.map (pushA (evs X m))), _, _, by omega, by omega, by omega, HBt.out, (HT20.out.stepN HCH.out).guard fun k h => h.elim⟩, ?_⟩
                  simp [intOf]; omega
        · rw [← HW0.out]
          have hx0 : w0.cell? ⟨wr.heap.size, 1, none⟩ = some (.int .u64 q) := by simp [World.cell?, HOB.out]
          refine (take_allF HT0.out.a q HQ.out N).mono ?_
          rintro e w8 ⟨v, rfl, hsl, hnew, S8, hF, hS, hc⟩
          have h8 := HT0.out.stepA hF (fun k hk => .inl (hS k hk)) hc
          have h80 := (h8.kept wr.heap.size rfl).2.2.2.trans HOB.out
          have hob1 : w8.cell? ⟨wr.heap.size, 1, none⟩ = some (.int .u64 q) := by simp [World.cell?, h80]
          have hob2 : w8.cell? ⟨wr.heap.size, 2, none⟩ = some (.int .i64 N) := by simp [World.cell?, h80]
          have HT9 : Hid (Duo w w8 w8 (fun k => v.ownBlock = some k) p (.pointer (some ⟨xb, 0, none⟩)) (takeF F q N) F S8 T) := h8.guard fun k hk => .inl ⟨fun h' => by have := HT0.out.a.lt (hS k h'); have := hnew k hk; omega, fun h' => by have := HT0.out.b.lt h'; have := hnew k hk; omega, hsl.lt hk⟩
          have HSL : Hid (Sl w8 40 35 v ((takenF F q N).map It.cells)) := hsl
          have HSH : Hid ((takenF F q N).length ≤ 17) := taken_short HT0.out.a q N
          clear hsl hnew hF hS hc h8 h80 HT0 hx0
          go_wp2_with fail
          refine (rtake_allF HT9.out.b q N).mono ?_
          rintro e w9 ⟨v2, rfl, hsl, hnew, T9, hF, hS, hc⟩
          have HT10 : Hid (Duo w w9 w8 (fun k => v.ownBlock = some k) p (.pointer (some ⟨xb, 0, none⟩)) (takeF F q N) (takeF F q N) S8 T9) := HT9.out.stepB hF hS hc
          have HSA : Hid (Sl w9 40 35 v ((takenF F q N).map It.cells)) := HSL.out.keep fun k hk => (HT10.out.kept k hk).2.2.2
          have HSB : Hid (Sl w9 80 35 v2 ((takenF F q N).map It.cells)) := hsl
          obtain ⟨te, hte⟩ : ∃ te, te = takeErr F q := ⟨_, rfl⟩
          rw [← hte]
          clear hsl hnew hF hS hc HT9 HSL hob1 hob2 hte
          go_wp2_with fail
          refine (as_any v (takenF F q N) _ HSA.out (by have := HSH.out; omega)).mono ?_
          rintro e w10 ⟨v3, rfl, hsl, hnew, hc⟩
          have HT11 : Hid (Duo w w10 w8 (fun k => v.ownBlock = some k) p (.pointer (some ⟨xb, 0, none⟩)) (takeF F q N) (takeF F q N) S8 T9) := HT10.out.stepN hc
          have HSC : Hid (Sl w10 80 35 v3 ((takenF F q N).map It.cells)) := hsl
          have HSB2 : Hid (Sl w10 80 35 v2 ((takenF F q N).map It.cells)) := HSB.out.chg hc fun _ _ h => h
          clear hsl hnew hc HT10 HSA HSB
          go_wp2_with fail
          refine (rsame_any v3 v2 (takenF F q N) (takenF F q N) _ HSC.out HSB2.out (by have := HSH.out; omega)).mono ?_
          rintro e w12 ⟨r, rfl, hr, hc⟩
          have hrt : r = true := hr.2 rfl
          subst hrt
          have HTt : Hid (Duo w w12 w12 (fun _ => False) p (.pointer (some ⟨xb, 0, none⟩)) (takeF F q N) (takeF F q N) S8 T9) := (HT11.out.stepN hc).guard fun k h => h.elim
          have HBt : Hid (Bnd (takeF F q N) (k + 1)) := HB.out.take q N
          clear hr hc HT11 HSC HSB2
          go_wp2_with fail
          refine (watchers_is HTt.out.a HBt.out.len).mono ?_
          rintro e w20 ⟨v20, rfl, hsl, hnew, hc⟩
          have HT20 : Hid (Duo w w20 w20 (fun k => v20.ownBlock = some k) p (.pointer (some ⟨xb, 0, none⟩)) (takeF F q N) (takeF F q N) _ _) := (HTt.out.stepN hc).guard fun k hk => .inl ⟨(HTt.out.fresh (hnew k hk)).1, (HTt.out.fresh (hnew k hk)).2, hsl.lt hk⟩
          obtain ⟨av, cv, hv, _⟩ := Sl.shape2 hsl
          obtain ⟨L, hL⟩ : ∃ L, L = (takeF F q N).2.length := ⟨_, rfl⟩
          obtain ⟨ax, cx, hcx, hl8, hat⟩ := ref_open HT20.out.b
          rw [List.length_map, ← hL] at hv
          subst hv
          rw [← hL] at hcx hl8
          have HAT : Hid (∀ (j : Nat) (y : AR), (takeF F q N).2[j]? = some y → ∃ g o, ax = some ⟨g, o, none⟩ ∧ w20.cell? ⟨g, o + j * 3, none⟩ = some (.int .u64 y.1)) := hat
          have HSV : Hid (Sl w20 25 1 (.slice av L cv) ((takeF F q N).2.map fun a : AR => [Value.int .u64 (a.1 : Int)])) := hsl
          have HLL : Hid (L = (takeF F q N).2.length) := hL
          clear hsl hnew hc hat hL HTt
          go_wp2_with fail
          refine (waits_all HT20.out.a y HYB.out).mono ?_
          rintro e w21 ⟨rfl, hw⟩
          rw [hw]
          clear hw w21
          go_wp2_with fail
          refine (rwaits_all HT20.out.b y).mono ?_
          rintro e w21 ⟨rfl, hw⟩
          rw [hw]
          clear hw w21
          go_wp2_with fail
          go_loopw [21] (fun i wr2 => ∃ j : Nat, j ≤ L ∧ i = .int .i64 j ∧ Chg (fun _ => False) w20 wr2) (fun i _ => L - (intOf i).toNat)
          case atStart => exact ⟨0, Nat.zero_le _, rfl, Chg.refl _ _⟩
          case round =>
            obtain ⟨j, hj, rfl, hch⟩ := hrel
            have HCH : Hid (Chg (fun _ => False) w20 wr) := hch
            clear hch
            by_cases hjL : j < L
            · obtain ⟨yy, hyy⟩ : ∃ yy, (takeF F q N).2[j]? = some yy := ⟨_, List.getElem?_eq_getElem (by rw [← HLL.out]; exact hjL)⟩
              obtain ⟨g2, o2, rfl, hcy⟩ := HAT.out j yy hyy
              obtain ⟨gv, ov, cv', hvv, hrv⟩ := HSV.out.at (i := j) (x := [.int .u64 (yy.1 : Int)]) (by rw [List.getElem?_map, hyy]; rfl)
              have hav : av = some ⟨gv, ov, none⟩ := (Value.slice.inj hvv).1
              subst hav
              obtain ⟨W0, hW0⟩ : ∃ W0, W0 = wr.drew := ⟨_, rfl⟩
              have cW0 : Chg (fun _ => False) w20 W0 := by rw [hW0]; exact HCH.out.drew
              have hB0 := cW0.below (B := w20.heap.size) (Nat.le_refl _) fun _ _ h => h.elim
              have hlx : (Instr.loadAt 51 (.pointer (some ⟨xb, 0, none⟩))).run Try.prog W0 = .ok (.slice (some ⟨g2, o2, none⟩) L cx) W0 := Ex.load1 Try.underlying51 rfl (by rw [hB0.cell (cell_lt hcx)]; exact hcx)
              have hlr : (Instr.loadAt 25 (.pointer (some ⟨g2, o2 + j * 3, none⟩))).run Try.prog W0 = .ok (.int .u64 yy.1) W0 := Ex.load1 Try.underlying25 rfl (by rw [hB0.cell (cell_lt hcy)]; exact hcy)
              have hcv : w20.cell? ⟨gv, ov + j * 1, none⟩ = some (.int .u64 yy.1) := by have := hrv 0 _ rfl; simpa using this
              have hlv : (Instr.loadAt 25 (.pointer (some ⟨gv, ov + j * 1, none⟩))).run Try.prog W0 = .ok (.int .u64 yy.1) W0 := Ex.load1 Try.underlying25 rfl (by rw [hB0.cell (cell_lt hcv)]; exact hcv)
              have hiv := index63 W0 gv ov L cv j hjL
              have hix := index51 W0 g2 o2 L cx j hjL
              have hneq := neq_u64 (yy.1 : Int) W0
              have HW0 : Hid (W0 = wr.drew) := hW0
              have HCW : Hid (Chg (fun _ => False) w20 W0) := cW0
              clear hyy hcy hvv hrv hW0 cW0 hB0 hcv hcx
              go_wp2_with fail
              refine Go.Drawn.wp_region_chain [[], [], [0, 1], [0, 1, 2], [], [4], [4, 5], [4, 5, 6], [], [4, 5, 6, 7, 8], [4, 5, 6, 7, 8, 9], [4, 5, 6, 7, 8, 9, 10], [0, 1, 2, 3, 4, 5, 6, 7, 8, 9, 10, 11]] [.slice (some ⟨gv, ov, none⟩) L cv, .int .i64 j, .pointer (some ⟨gv, ov + j * 1, none⟩), .int .u64 yy.1, .pointer (some ⟨xb, 0, none⟩), .pointer (some ⟨xb, 0, none⟩), .pointer (some ⟨xb, 0, none⟩), .slice (some ⟨g2, o2, none⟩) L cx, .int .i64 j, .pointer (some ⟨g2, o2 + j * 3, none⟩), .pointer (some ⟨g2, o2 + j * 3, none⟩), .int .u64 yy.1, .bool false] (fun k => ([W0] : List World).getD k (W0)) [] [[0], [0], [0], [0], [0], [0], [0], [0], [0], [0], [0], [0], [0]] (by kernel_rfl) (by kernel_rfl) (by kernel_rfl) (by kernel_rfl) (by kernel_rfl) (by kernel_rfl) ?_ ?_ ?_
              · exact HW0.out
              · exact ⟨⟨(.val (by kernel_rfl) (by kernel_rfl)), trivial⟩,
      ⟨(.val (by kernel_rfl) (by kernel_rfl)), trivial⟩,
      ⟨(.val (by kernel_rfl) (Ex.indexAddr rfl hiv)), trivial⟩,
      ⟨(.val (by kernel_rfl) (Ex.load rfl hlv)), trivial⟩,
      ⟨(.val (by kernel_rfl) (by kernel_rfl)), trivial⟩,
      ⟨(.val (by kernel_rfl) (by kernel_rfl)), trivial⟩,
      ⟨(.val (by kernel_rfl) (by kernel_rfl)), trivial⟩,
      ⟨(.val (by kernel_rfl) (Ex.load rfl hlx)), trivial⟩,
      ⟨(.val (by kernel_rfl) (by kernel_rfl)), trivial⟩,
      ⟨(.val (by kernel_rfl) (Ex.indexAddr rfl hix)), trivial⟩,
      ⟨(.val (by kernel_rfl) (by kernel_rfl)), trivial⟩,
      ⟨(.val (by kernel_rfl) (Ex.load rfl hlr)), trivial⟩,
      ⟨(.val (by kernel_rfl) (Ex.bin_int rfl rfl rfl hneq)), trivial⟩,
      trivial⟩
              simp only [Go.Drawn.putAll, Act.put, List.getD_cons_zero, List.getD_cons_succ, List.setIfInBounds_toArray, List.set_cons_zero, List.set_cons_succ, List.length_nil]
              clear hlx hlr hlv hiv hix hneq
              go_wp2_with fail
              refine ⟨⟨j + 1, by omega, by go_num, HCW.out⟩, ?_⟩
              simp [intOf]; omega
            · have hj' : j = L := by omega
              have HJ : Hid (j = L) := hj'
              clear hj'
              go_wp2_with fail
              refine ⟨⟨k + 1, X, by go_num, rfl, takeF F q N, _, _, by omega, by omega, by omega, HBt.out, (HT20.out.stepN HCH.out).guard fun k h => h.elim⟩, ?_⟩
              simp [intOf]; omega
        · rw [← HW0.out]
          have HTt : Hid (Duo w w0 w0 (fun _ => False) p (.pointer (some ⟨xb, 0, none⟩)) F F S T) := HT0.out.guard fun k h => h.elim
          have HBt : Hid (Bnd F (k + 1)) := HB.out.up
          clear HT0
          refine (watchers_is HTt.out.a HBt.out.len).mono ?_
          rintro e w20 ⟨v20, rfl, hsl, hnew, hc⟩
          have HT20 : Hid (Duo w w20 w20 (fun k => v20.ownBlock = some k) p (.pointer (some ⟨xb, 0, none⟩)) (F) (F) _ _) := (HTt.out.stepN hc).guard fun k hk => .inl ⟨(HTt.out.fresh (hnew k hk)).1, (HTt.out.fresh (hnew k hk)).2, hsl.lt hk⟩
          obtain ⟨av, cv, hv, _⟩ := Sl.shape2 hsl
          obtain ⟨L, hL⟩ : ∃ L, L = (F).2.length := ⟨_, rfl⟩
          obtain ⟨ax, cx, hcx, hl8, hat⟩ := ref_open HT20.out.b
          rw [List.length_map, ← hL] at hv
          subst hv
          rw [← hL] at hcx hl8
          have HAT : Hid (∀ (j : Nat) (y : AR), (F).2[j]? = some y → ∃ g o, ax = some ⟨g, o, none⟩ ∧ w20.cell? ⟨g, o + j * 3, none⟩ = some (.int .u64 y.1)) := hat
          have HSV : Hid (Sl w20 25 1 (.slice av L cv) ((F).2.map fun a : AR => [Value.int .u64 (a.1 : Int)])) := hsl
          have HLL : Hid (L = (F).2.length) := hL
          clear hsl hnew hc hat hL HTt
          go_wp2_with fail
          refine (waits_all HT20.out.a y HYB.out).mono ?_
          rintro e w21 ⟨rfl, hw⟩
          rw [hw]
          clear hw w21
          go_wp2_with fail
          refine (rwaits_all HT20.out.b y).mono ?_
          rintro e w21 ⟨rfl, hw⟩
          rw [hw]
          clear hw w21
          go_wp2_with fail
          go_loopw [21] (fun i wr2 => ∃ j : Nat, j ≤ L ∧ i = .int .i64 j ∧ Chg (fun _ => False) w20 wr2) (fun i _ => L - (intOf i).toNat)
          case atStart => exact ⟨0, Nat.zero_le _, rfl, Chg.refl _ _⟩
          case round =>
            obtain ⟨j, hj, rfl, hch⟩ := hrel
            have HCH : Hid (Chg (fun _ => False) w20 wr) := hch
            clear hch
            by_cases hjL : j < L
            · obtain ⟨yy, hyy⟩ : ∃ yy, (F).2[j]? = some yy := ⟨_, List.getElem?_eq_getElem (by rw [← HLL.out]; exact hjL)⟩
              obtain ⟨g2, o2, rfl, hcy⟩ := HAT.out j yy hyy
              obtain ⟨gv, ov, cv', hvv, hrv⟩ := HSV.out.at (i := j) (x := [.int .u64 (yy.1 : Int)]) (by rw [List.getElem?_map, hyy]; rfl)
              have hav : av = some ⟨gv, ov, none⟩ := (Value.slice.inj hvv).1
              subst hav
              obtain ⟨W0, hW0⟩ : ∃ W0, W0 = wr.drew := ⟨_, rfl⟩
              have cW0 : Chg (fun _ => False) w20 W0 := by rw [hW0]; exact HCH.out.drew
              have hB0 := cW0.below (B := w20.heap.size) (Nat.le_refl _) fun _ _ h => h.elim
              have hlx : (Instr.loadAt 51 (.pointer (some ⟨xb, 0, none⟩))).run Try.prog W0 = .ok (.slice (some ⟨g2, o2, none⟩) L cx) W0 := Ex.load1 Try.underlying51 rfl (by rw [hB0.cell (cell_lt hcx)]; exact hcx)
              have hlr : (Instr.loadAt 25 (.pointer (some ⟨g2, o2 + j * 3, none⟩))).run Try.prog W0 = .ok (.int .u64 yy.1) W0 := Ex.load1 Try.underlying25 rfl (by rw [hB0.cell (cell_lt hcy)]; exact hcy)
              have hcv : w20.cell? ⟨gv, ov + j * 1, none⟩ = some (.int .u64 yy.1) := by have := hrv 0 _ rfl; simpa using this
              have hlv : (Instr.loadAt 25 (.pointer (some ⟨gv, ov + j * 1, none⟩))).run Try.prog W0 = .ok (.int .u64 yy.1) W0 := Ex.load1 Try.underlying25 rfl (by rw [hB0.cell (cell_lt hcv)]; exact hcv)
              have hiv := index63 W0 gv ov L cv j hjL
              have hix := index51 W0 g2 o2 L cx j hjL
              have hneq := neq_u64 (yy.1 : Int) W0
              have HW0 : Hid (W0 = wr.drew) := hW0
              have HCW : Hid (Chg (fun _ => False) w20 W0) := cW0
              clear hyy hcy hvv hrv hW0 cW0 hB0 hcv hcx
              go_wp2_with fail
              refine Go.Drawn.wp_region_chain [[], [], [0, 1], [0, 1, 2], [], [4], [4, 5], [4, 5, 6], [], [4, 5, 6, 7, 8], [4, 5, 6, 7, 8, 9], [4, 5, 6, 7, 8, 9, 10], [0, 1, 2, 3, 4, 5, 6, 7, 8, 9, 10, 11]] [.slice (some ⟨gv, ov, none⟩) L cv, .int .i64 j, .pointer (some ⟨gv, ov + j * 1, none⟩), .int .u64 yy.1, .pointer (some ⟨xb, 0, none⟩), .pointer (some ⟨xb, 0, none⟩), .pointer (some ⟨xb, 0, none⟩), .slice (some ⟨g2, o2, none⟩) L cx, .int .i64 j, .pointer (some ⟨g2, o2 + j * 3, none⟩), .pointer (some ⟨g2, o2 + j * 3, none⟩), .int .u64 yy.1, .bool false] (fun k => ([W0] : List World).getD k (W0)) [] [[0], [0], [0], [0], [0], [0], [0], [0], [0], [0], [0], [0], [0]] (by kernel_rfl) (by kernel_rfl) (by kernel_rfl) (by kernel_rfl) (by kernel_rfl) (by kernel_rfl) ?_ ?_ ?_
              · exact HW0.out
              · exact ⟨⟨(.val (by kernel_rfl) (by kernel_rfl)), trivial⟩,
      ⟨(.val (by kernel_rfl) (by kernel_rfl)), trivial⟩,
      ⟨(.val (by kernel_rfl) (Ex.indexAddr rfl hiv)), trivial⟩,
      ⟨(.val (by kernel_rfl) (Ex.load rfl hlv)), trivial⟩,
      ⟨(.val (by kernel_rfl) (by kernel_rfl)), trivial⟩,
      ⟨(.val (by kernel_rfl) (by kernel_rfl)), trivial⟩,
      ⟨(.val (by kernel_rfl) (by kernel_rfl)), trivial⟩,
      ⟨(.val (by kernel_rfl) (Ex.load rfl hlx)), trivial⟩,
      ⟨(.val (by kernel_rfl) (by kernel_rfl)), trivial⟩,
      ⟨(.val (by kernel_rfl) (Ex.indexAddr rfl hix)), trivial⟩,
      ⟨(.val (by kernel_rfl) (by kernel_rfl)), trivial⟩,
      ⟨(.val (by kernel_rfl) (Ex.load rfl hlr)), trivial⟩,
      ⟨(.val (by kernel_rfl) (Ex.bin_int rfl rfl rfl hneq)), trivial⟩,
      trivial⟩
              simp only [Go.Drawn.putAll, Act.put, List.getD_cons_zero, List.getD_cons_succ, List.setIfInBounds_toArray, List.set_cons_zero, List.set_cons_succ, List.length_nil]
              clear hlx hlr hlv hiv hix hneq
              go_wp2_with fail
              refine ⟨⟨j + 1, by omega, by go_num, HCW.out⟩, ?_⟩
              simp [intOf]; omega
            · have hj' : j = L := by omega
              have HJ : Hid (j = L) := hj'
              clear hj'
              go_wp2_with fail
              refine ⟨⟨k + 1, X, by go_num, rfl, F, _, _, by omega, by omega, by omega, HBt.out, (HT20.out.stepN HCH.out).guard fun k h => h.elim⟩, ?_⟩
              simp [intOf]; omega
      · go_wp2_with fail
        refine (alive_any _).mono ?_
        rintro e w9 ⟨rfl, hc⟩
        have HT9 : Hid (Chg (fun _ => False) w w9) := HT.out.chg.trans (hc.mono fun _ _ h => h.elim)
        clear hc HT
        go_wp2_with fail
        go_ret
        exact ⟨rfl, HT9.out⟩
    · go_wp2_with fail
      refine (alive_any _).mono ?_
      rintro e w9 ⟨rfl, hc⟩
      have HT9 : Hid (Chg (fun _ => False) w w9) := HT.out.chg.trans (hc.mono fun _ _ h => h.elim)
      clear hc HT
      go_wp2_with fail
      go_ret
      exact ⟨rfl, HT9.out⟩
end Go.Proofs.Ytdljloohgidbfaa
