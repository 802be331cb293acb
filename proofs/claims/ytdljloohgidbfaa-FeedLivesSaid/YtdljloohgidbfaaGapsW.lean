/-
  The walk of FeedGaps.
-/
import Derived.Test.YtdljloohgidbfaaGapsD
import Derived.Test.YtdljloohgidbfaaArgs
namespace Go.Proofs.Ytdljloohgidbfaa
open Go Go.RowKit Go.Mem Go.Args

/-- an op's cells -/
@[reducible] def opC (x : List Int) : List Value := List.zipWith (fun k n => Value.int k n) [.i64, .u64, .i64] x
theorem opC3 {x : List Int} (h : x.length = 3) : ∃ a b c, x = [a, b, c] ∧ opC x = [.int .i64 a, .int .u64 b, .int .i64 c] := by
  match x, h with
  | [a, b, c], _ => exact ⟨a, b, c, rfl, rfl⟩

/-- what holds at the head of a round -/
def GapsI (w : World) (p : Value) (n k : Nat) (s t : Int) (wr : World) : Prop :=
  ∃ (q : List It × Nat) (S : Nat → Prop), k ≤ n + 1 ∧ k ≤ 120 ∧ 1000 ≤ s ∧ t ≤ 1000 + 40 * (k : Int) ∧ Cov s t q ∧ q.1.length ≤ 16 ∧ (k = n + 1 → q = ([], 0) ∧ s = t) ∧ IsFeed wr p (1, [(1, q)]) S ∧ (∀ k, S k → w.heap.size ≤ k) ∧ Chg (fun _ => False) w wr

set_option maxRecDepth 100000 in
set_option maxHeartbeats 8000000 in
theorem gaps_walk (ahead : Int) (a : Option Addr) (n cap : Nat) (xs : List (List Int)) (w : World) (hr : RdSl w 3 (.slice a n cap) (xs.map opC)) (hx : ∀ x ∈ xs, x.length = 3) (hn : n = xs.length) (hcap : n ≤ maxLen) :
    Calls Try.prog 4 #[.int .i64 ahead, .slice a n cap] w fun e w' => e = .returned (.bool true) ∧ Chg (fun _ => False) w w' := by
  unfold maxLen at hcap
  have HR : Hid (RdSl w 3 (.slice a n cap) (xs.map opC)) := hr
  have HX : Hid (∀ x ∈ xs, x.length = 3) := hx
  have HN : Hid (n = xs.length) := hn
  clear hr hx hn
  go_enter Try.func4, Try.ntmps4
  go_wp2_with fail
  refine (new_any _).mono ?_
  rintro e w1 ⟨p, S, rfl, hF, hS, hc⟩
  have HC1 : Hid (Chg (fun _ => False) w w1) := hc
  have HS1 : Hid (∀ k, S k → w.heap.size ≤ k) := hS
  have HF1 : Hid (IsFeed w1 p (0, []) S) := hF
  clear hc hS hF
  go_wp2_with fail
  refine (events_is 1 ahead _ (by decide)).mono ?_
  rintro e w2 ⟨v, rfl, hsl, hnew, hb⟩
  have HC2 : Hid (Chg (fun _ => False) w w2) := HC1.out.trans ((Chg.of_below hb).mono fun k _ h => .inr (Nat.le_trans HC1.out.size h))
  have HF2 : Hid (IsFeed w2 p (0, []) S) := HF1.out.keep (Chg.of_below hb) fun k hk h => by have := HF1.out.lt hk; omega
  have HSL : Hid (Sl w2 38 34 v ((evs 1 (min ahead.toNat 40)).map Ev.cells)) := hsl
  clear hsl hnew hb HF1 HC1
  go_wp2_with fail
  refine (push_is HF2.out v (evs 1 (min ahead.toNat 40)) HSL.out (by rw [evs_length]; omega) (by intro a ha; simp at ha)).mono ?_
  rintro e w3 ⟨rfl, S3, hF, hS, hc⟩
  have HC3 : Hid (Chg (fun _ => False) w w3) := HC2.out.trans (hc.mono fun k _ h => .inr (HS1.out k h))
  have HS3 : Hid (∀ k, S3 k → w.heap.size ≤ k) := fun k hk => by rcases hS k hk with h | h; exact HS1.out k h; exact Nat.le_trans HC2.out.size h
  have HF3 : Hid (IsFeed w3 p (0, []) S3) := hF
  clear hF hS hc HF2 HC2 HS1 HSL
  go_wp2_with fail
  refine (watch_is HF3.out (by simp) (by simp)).mono ?_
  rintro e w4 ⟨rfl, S4, hF, hS, hc⟩
  have HI : Hid (GapsI w p n 0 1000 1000 w4) := ⟨([], 0), S4, by omega, by omega, by omega, by omega, cov_start _, by simp, fun h => by omega, hF,
    fun k hk => by rcases hS k hk with h | h; exact HS3.out k h; exact Nat.le_trans HC3.out.size h, HC3.out.trans (hc.mono fun k _ h => .inr (HS3.out k h))⟩
  clear hF hS hc HF3 HC3 HS3
  go_wp2_with fail
  go_loopw [8, 9, 10] (fun nx sn i wr => ∃ (k x y : Nat), i = .int .i64 k ∧ nx = .int .u64 y ∧ sn = .int .u64 x ∧ GapsI w p n k x y wr) (fun _ _ i _ => n + 1 - (intOf i).toNat)
  case atStart => exact ⟨0, 1000, 1000, rfl, rfl, rfl, HI.out⟩
  case round =>
    obtain ⟨k, x, y, rfl, rfl, rfl, hI⟩ := hrel
    obtain ⟨q, S5, hk1, hk2, hs1, ht1, hcov, hq, hend, hF, hS, hc⟩ := hI
    have HF5 : Hid (IsFeed wr p (1, [(1, q)]) S5) := hF
    have HS5 : Hid (∀ k, S5 k → w.heap.size ≤ k) := hS
    have HC5 : Hid (Chg (fun _ => False) w wr) := hc
    have HQ : Hid (Cov (x : Int) (y : Int) q ∧ q.1.length ≤ 16) := ⟨hcov, hq⟩
    have HE : Hid (k = n + 1 → q = ([], 0) ∧ (x : Int) = y) := hend
    have hsy : (x : Int) ≤ y := cov_le hcov
    clear hF hS hc HI hcov hq hend
    by_cases hg : k ≤ n ∧ k < 120
    · obtain ⟨hg1, hg2⟩ := hg
      by_cases hkn : k < n
      · obtain ⟨z, hz⟩ : ∃ z, xs[k]? = some z := ⟨_, List.getElem?_eq_getElem (by rw [← HN.out]; exact hkn)⟩
        obtain ⟨z0, z1, N, hze, hzc⟩ := opC3 (HX.out z (List.mem_of_getElem? hz))
        obtain ⟨g, o, c, hva, hra⟩ := HR.out.at (HC5.out.below (Nat.le_refl _) fun _ _ h => h.elim) (i := k) (x := opC z) (by rw [List.getElem?_map, hz]; rfl)
        have ea : a = some ⟨g, o, none⟩ := (Value.slice.inj hva).1
        subst ea
        rw [hzc] at hra
        have hc0 : wr.cell? ⟨g, o + k * 3, none⟩ = some (.int .i64 z0) := by have := hra 0 _ rfl; simpa using this
        have hc2 : wr.cell? ⟨g, o + k * 3 + 2, none⟩ = some (.int .i64 N) := hra 2 _ rfl
        clear hva hra hze hzc hz
        go_wp2_with fail
        · refine (events_is y N _ (by omega)).mono ?_
          rintro e w6 ⟨v, rfl, hsl, hnew, hb⟩
          have HC6 : Hid (Chg (fun _ => False) w w6) := HC5.out.trans ((Chg.of_below hb).mono fun k _ h => .inr (Nat.le_trans HC5.out.size h))
          have HF6 : Hid (IsFeed w6 p (1, [(1, q)]) S5) := HF5.out.keep (Chg.of_below hb) fun k hk h => by have := HF5.out.lt hk; omega
          obtain ⟨m, hm⟩ : ∃ m, m = min N.toNat 40 := ⟨_, rfl⟩
          rw [← hm] at hsl
          have hm40 : m ≤ 40 := by omega
          obtain ⟨a6, c6, hv6, _⟩ := Sl.shape2 hsl
          rw [List.length_map, evs_length] at hv6
          subst hv6
          have HSL : Hid (Sl w6 38 34 (.slice a6 m c6) ((evs y m).map Ev.cells)) := hsl
          clear hsl hnew hb HF5 HC5 hc0 hc2 hm
          have hql := cov_lost HQ.out.1
          go_wp2_with fail
          refine (push_is HF6.out _ (evs y m) HSL.out (by rw [evs_length]; omega) (by intro a ha; simp at ha; subst ha; simp only; omega)).mono ?_
          rintro e w7 ⟨rfl, S7, hF, hS, hc⟩
          have HC7 : Hid (Chg (fun _ => False) w w7) := HC6.out.trans (hc.mono fun k _ h => .inr (HS5.out k h))
          have HS7 : Hid (∀ k, S7 k → w.heap.size ≤ k) := fun k hk => by rcases hS k hk with h | h; exact HS5.out k h; exact Nat.le_trans HC6.out.size h
          have HF7 : Hid (IsFeed w7 p (1, [(1, (evs y m).foldl pushI q)]) S7) := hF
          clear hF hS hc HF6 HC6 HS5 HSL
          go_wp2_with fail
          refine ⟨⟨k + 1, x, y + m, by go_num, by go_num, rfl, (evs y m).foldl pushI q, S7, by omega, by omega, by omega, by omega, cov_evs m HQ.out.1, foldl_le _ _ HQ.out.2, fun h => by omega, HF7.out, HS7.out, HC7.out⟩, ?_⟩
          simp [intOf]; omega

        · clear hc0 hc2
          refine (take_is HF5.out (1, q) (by simp) N).mono ?_
          rintro e w6 ⟨v6, rfl, hsl, hnew, S6, hF, hS, hc⟩
          obtain ⟨s', hs', hcv'⟩ := cov_take (N) HQ.out.1
          have htl := take_len q (N)
          have h17 := take_17 q (N) HQ.out.2
          have HE6 : Hid (k + 1 = n + 1 → (takeI q (N)).2 = ([], 0) ∧ s' = (y : Int)) := fun h => by omega
          have HQ6 : Hid ((takeI q (N)).2.1.length ≤ 16) := take_few q (N) HQ.out.2
          have hF : IsFeed w6 p (1, [(1, (takeI q (N)).2)]) S6 := hF
          obtain ⟨L, hL⟩ : ∃ L, L = (takeI q (N)).1 := ⟨_, rfl⟩
          obtain ⟨q', hq'⟩ : ∃ q', q' = (takeI q (N)).2 := ⟨_, rfl⟩
          simp only [← hL] at hsl hs' htl h17
          rw [← hq'] at hcv' hF HE6 HQ6
          have HC6 : Hid (Chg (fun _ => False) w w6) := HC5.out.trans (hc.mono fun k _ h => .inr (HS5.out k h))
          have HS6 : Hid (∀ k, S6 k → w.heap.size ≤ k) := fun k hk => by rcases hS k hk with h | h; exact HS5.out k h; exact Nat.le_trans HC5.out.size h
          have HF6 : Hid (IsFeed w6 p (1, [(1, q')]) S6) := hF
          obtain ⟨a6, c6, hv6, _⟩ := Sl.shape2 hsl
          rw [List.length_map] at hv6
          obtain ⟨m6, hm6⟩ : ∃ m6, m6 = L.length := ⟨_, rfl⟩
          rw [← hm6] at hv6 htl h17
          subst hv6
          have HSL : Hid (Sl w6 40 35 (.slice a6 m6 c6) (L.map It.cells)) := hsl
          have HCN : Hid (consC (x : Int) L = some s') := hs'
          have HCV : Hid (Cov s' (y : Int) q') := hcv'
          have HM6 : Hid (m6 = L.length) := hm6
          have hle' : s' ≤ (y : Int) := cov_le hcv'
          have hle0 : (x : Int) ≤ s' := consC_le hs'
          obtain ⟨ht1', ht2'⟩ := htl
          clear hF hS hc HF5 HC5 HS5 hsl hnew hL hq' hs' hcv' hm6 HQ HE
          by_cases hN : 0 < N
          · have hmN : (m6 : Int) ≤ N := ht1' hN
            clear ht1' ht2'
            go_wp2_with fail
            go_loop [9, 15] (fun sn i => ∃ (j s2 : Nat), j ≤ m6 ∧ i = .int .i64 j ∧ sn = .int .u64 s2 ∧ consC (x : Int) (L.take j) = some (s2 : Int)) (fun _ i => m6 - (intOf i).toNat)
            case atStart => exact ⟨0, x, Nat.zero_le _, rfl, rfl, rfl⟩
            case round =>
              obtain ⟨j, s2, hj, rfl, rfl, hcs⟩ := hrel
              have HCS : Hid (consC (x : Int) (L.take j) = some (s2 : Int)) := hcs
              clear hcs
              by_cases hjm : j < m6
              · obtain ⟨X, hX⟩ : ∃ X, L[j]? = some X := ⟨_, List.getElem?_eq_getElem (by rw [← HM6.out]; exact hjm)⟩
                obtain ⟨s3, hst, hs3, hl3, _⟩ := consC_at HCN.out hX HCS.out
                obtain ⟨g6, o6, c7, hv6, hra⟩ := HSL.out.at (i := j) (x := X.cells) (by rw [List.getElem?_map, hX]; rfl)
                have ea : a6 = some ⟨g6, o6, none⟩ := (Value.slice.inj hv6).1
                subst ea
                have hl0 : w6.cell? ⟨g6, o6 + j * 35 + 34, none⟩ = some (.int .u64 X.l) := hra 34 _ rfl
                have hl1 : w6.cell? ⟨g6, o6 + j * 35 + 33, none⟩ = some (.int .u64 X.v) := hra 33 _ rfl
                have hlt := stepC_le hst
                obtain ⟨s4, hs4⟩ : ∃ s4 : Nat, s3 = (s4 : Int) := ⟨s3.toNat, by omega⟩
                have HS4 : Hid (consC (x : Int) (L.take (j + 1)) = some (s4 : Int)) := by unfold Hid; rw [hs3, hs4]
                unfold stepC at hst
                clear hv6 hra hX hs3
                by_cases hXl : 0 < X.l
                · rw [if_pos hXl] at hst
                  by_cases hXv : X.v = 0
                  · rw [if_pos hXv, hs4] at hst
                    have hst : (s2 : Int) + X.l = (s4 : Int) := Option.some.inj hst
                    have HST : Hid ((s2 : Int) + X.l = (s4 : Int)) := hst
                    have hb1 : (s2 : Int) + X.l ≤ 1000000 := by omega
                    rw [hXv] at hl1
                    clear hst hs4 hXv
                    go_wp2_with fail
                    go_round
                    case rel => exact ⟨j + 1, s4, by omega, by go_num, by rw [HST.out], HS4.out⟩
                    case measure => simp [intOf]; omega
                  · rw [if_neg hXv] at hst; cases hst
                · rw [if_neg hXl] at hst
                  by_cases hXv : X.v = s2
                  · rw [if_pos hXv, hs4] at hst
                    have hst : (s2 : Int) + 1 = (s4 : Int) := Option.some.inj hst
                    have HST : Hid ((s2 : Int) + 1 = (s4 : Int)) := hst
                    have hb1 : (s2 : Int) + 1 ≤ 1000000 := by omega
                    rw [hXv] at hl1
                    clear hst hs4 hXv
                    go_wp2_with fail
                    go_round
                    case rel => exact ⟨j + 1, s4, by omega, by go_num, by rw [HST.out], HS4.out⟩
                    case measure => simp [intOf]; omega
                  · rw [if_neg hXv] at hst; cases hst
              · have hfin : (s2 : Int) = s' := by
                  have h1 := HCS.out
                  rw [List.take_of_length_le (by rw [← HM6.out]; omega), HCN.out] at h1
                  exact (Option.some.inj h1).symm
                have hle3 : s2 ≤ y := by omega
                have h1000 : 1000 ≤ s2 := by omega
                have HFIN : Hid ((s2 : Int) = s') := hfin
                clear hfin
                go_wp2_with fail
                refine ⟨⟨k + 1, s2, y, by go_num, rfl, rfl, q', S6, by omega, by omega, by omega, by omega, by rw [HFIN.out]; exact HCV.out, HQ6.out, fun h => by rw [HFIN.out]; exact HE6.out h, HF6.out, HS6.out, HC6.out⟩, ?_⟩
                simp [intOf]; omega

          · have hm0 : m6 = 0 := ht2' (by omega)
            have hm0' : ¬ 0 < m6 := by omega
            have HM0 : Hid (m6 = 0) := hm0
            clear ht1' ht2' hm0
            go_wp2_with fail
            go_loop [9, 15] (fun sn i => ∃ (j s2 : Nat), j ≤ m6 ∧ i = .int .i64 j ∧ sn = .int .u64 s2 ∧ consC (x : Int) (L.take j) = some (s2 : Int)) (fun _ i => m6 - (intOf i).toNat)
            case atStart => exact ⟨0, x, Nat.zero_le _, rfl, rfl, rfl⟩
            case round =>
              obtain ⟨j, s2, hj, rfl, rfl, hcs⟩ := hrel
              have HCS : Hid (consC (x : Int) (L.take j) = some (s2 : Int)) := hcs
              clear hcs
              by_cases hjm : j < m6
              · exact absurd hjm (by omega)
              · have hfin : (s2 : Int) = s' := by
                  have h1 := HCS.out
                  rw [List.take_of_length_le (by rw [← HM6.out]; omega), HCN.out] at h1
                  exact (Option.some.inj h1).symm
                have hle3 : s2 ≤ y := by omega
                have h1000 : 1000 ≤ s2 := by omega
                have HFIN : Hid ((s2 : Int) = s') := hfin
                clear hfin
                go_wp2_with fail
                refine ⟨⟨k + 1, s2, y, by go_num, rfl, rfl, q', S6, by omega, by omega, by omega, by omega, by rw [HFIN.out]; exact HCV.out, HQ6.out, fun h => by rw [HFIN.out]; exact HE6.out h, HF6.out, HS6.out, HC6.out⟩, ?_⟩
                simp [intOf]; omega

      · have HK : Hid (k = n) := by unfold Hid; omega
        go_wp2_with fail
        refine (take_is HF5.out (1, q) (by simp) 100).mono ?_
        rintro e w6 ⟨v6, rfl, hsl, hnew, S6, hF, hS, hc⟩
        obtain ⟨s', hs', hcv'⟩ := cov_take (100) HQ.out.1
        have htl := take_len q (100)
        have h17 := take_17 q (100) HQ.out.2
        have HE6 : Hid (k + 1 = n + 1 → (takeI q (100)).2 = ([], 0) ∧ s' = (y : Int)) := fun h => by have h1 := take_hundred q HQ.out.2; rw [h1] at hcv'; obtain ⟨m, e1, e2⟩ := hcv'; simp [consC] at e1 e2; exact ⟨h1, by omega⟩
        have HQ6 : Hid ((takeI q (100)).2.1.length ≤ 16) := take_few q (100) HQ.out.2
        have hF : IsFeed w6 p (1, [(1, (takeI q (100)).2)]) S6 := hF
        obtain ⟨L, hL⟩ : ∃ L, L = (takeI q (100)).1 := ⟨_, rfl⟩
        obtain ⟨q', hq'⟩ : ∃ q', q' = (takeI q (100)).2 := ⟨_, rfl⟩
        simp only [← hL] at hsl hs' htl h17
        rw [← hq'] at hcv' hF HE6 HQ6
        have HC6 : Hid (Chg (fun _ => False) w w6) := HC5.out.trans (hc.mono fun k _ h => .inr (HS5.out k h))
        have HS6 : Hid (∀ k, S6 k → w.heap.size ≤ k) := fun k hk => by rcases hS k hk with h | h; exact HS5.out k h; exact Nat.le_trans HC5.out.size h
        have HF6 : Hid (IsFeed w6 p (1, [(1, q')]) S6) := hF
        obtain ⟨a6, c6, hv6, _⟩ := Sl.shape2 hsl
        rw [List.length_map] at hv6
        obtain ⟨m6, hm6⟩ : ∃ m6, m6 = L.length := ⟨_, rfl⟩
        rw [← hm6] at hv6 htl h17
        subst hv6
        have HSL : Hid (Sl w6 40 35 (.slice a6 m6 c6) (L.map It.cells)) := hsl
        have HCN : Hid (consC (x : Int) L = some s') := hs'
        have HCV : Hid (Cov s' (y : Int) q') := hcv'
        have HM6 : Hid (m6 = L.length) := hm6
        have hle' : s' ≤ (y : Int) := cov_le hcv'
        have hle0 : (x : Int) ≤ s' := consC_le hs'
        obtain ⟨ht1', ht2'⟩ := htl
        clear hF hS hc HF5 HC5 HS5 hsl hnew hL hq' hs' hcv' hm6 HQ HE
        have hm100 : (m6 : Int) ≤ 100 := ht1' (by omega)
        clear ht1' ht2'
        go_wp2_with fail
        go_loop [9, 15] (fun sn i => ∃ (j s2 : Nat), j ≤ m6 ∧ i = .int .i64 j ∧ sn = .int .u64 s2 ∧ consC (x : Int) (L.take j) = some (s2 : Int)) (fun _ i => m6 - (intOf i).toNat)
        case atStart => exact ⟨0, x, Nat.zero_le _, rfl, rfl, rfl⟩
        case round =>
          obtain ⟨j, s2, hj, rfl, rfl, hcs⟩ := hrel
          have HCS : Hid (consC (x : Int) (L.take j) = some (s2 : Int)) := hcs
          clear hcs
          by_cases hjm : j < m6
          · obtain ⟨X, hX⟩ : ∃ X, L[j]? = some X := ⟨_, List.getElem?_eq_getElem (by rw [← HM6.out]; exact hjm)⟩
            obtain ⟨s3, hst, hs3, hl3, _⟩ := consC_at HCN.out hX HCS.out
            obtain ⟨g6, o6, c7, hv6, hra⟩ := HSL.out.at (i := j) (x := X.cells) (by rw [List.getElem?_map, hX]; rfl)
            have ea : a6 = some ⟨g6, o6, none⟩ := (Value.slice.inj hv6).1
            subst ea
            have hl0 : w6.cell? ⟨g6, o6 + j * 35 + 34, none⟩ = some (.int .u64 X.l) := hra 34 _ rfl
            have hl1 : w6.cell? ⟨g6, o6 + j * 35 + 33, none⟩ = some (.int .u64 X.v) := hra 33 _ rfl
            have hlt := stepC_le hst
            obtain ⟨s4, hs4⟩ : ∃ s4 : Nat, s3 = (s4 : Int) := ⟨s3.toNat, by omega⟩
            have HS4 : Hid (consC (x : Int) (L.take (j + 1)) = some (s4 : Int)) := by unfold Hid; rw [hs3, hs4]
            unfold stepC at hst
            clear hv6 hra hX hs3
            by_cases hXl : 0 < X.l
            · rw [if_pos hXl] at hst
              by_cases hXv : X.v = 0
              · rw [if_pos hXv, hs4] at hst
                have hst : (s2 : Int) + X.l = (s4 : Int) := Option.some.inj hst
                have HST : Hid ((s2 : Int) + X.l = (s4 : Int)) := hst
                have hb1 : (s2 : Int) + X.l ≤ 1000000 := by omega
                rw [hXv] at hl1
                clear hst hs4 hXv
                go_wp2_with fail
                go_round
                case rel => exact ⟨j + 1, s4, by omega, by go_num, by rw [HST.out], HS4.out⟩
                case measure => simp [intOf]; omega
              · rw [if_neg hXv] at hst; cases hst
            · rw [if_neg hXl] at hst
              by_cases hXv : X.v = s2
              · rw [if_pos hXv, hs4] at hst
                have hst : (s2 : Int) + 1 = (s4 : Int) := Option.some.inj hst
                have HST : Hid ((s2 : Int) + 1 = (s4 : Int)) := hst
                have hb1 : (s2 : Int) + 1 ≤ 1000000 := by omega
                rw [hXv] at hl1
                clear hst hs4 hXv
                go_wp2_with fail
                go_round
                case rel => exact ⟨j + 1, s4, by omega, by go_num, by rw [HST.out], HS4.out⟩
                case measure => simp [intOf]; omega
              · rw [if_neg hXv] at hst; cases hst
          · have hfin : (s2 : Int) = s' := by
              have h1 := HCS.out
              rw [List.take_of_length_le (by rw [← HM6.out]; omega), HCN.out] at h1
              exact (Option.some.inj h1).symm
            have hle3 : s2 ≤ y := by omega
            have h1000 : 1000 ≤ s2 := by omega
            have HFIN : Hid ((s2 : Int) = s') := hfin
            clear hfin
            go_wp2_with fail
            refine ⟨⟨k + 1, s2, y, by go_num, rfl, rfl, q', S6, by omega, by omega, by omega, by omega, by rw [HFIN.out]; exact HCV.out, HQ6.out, fun h => by rw [HFIN.out]; exact HE6.out h, HF6.out, HS6.out, HC6.out⟩, ?_⟩
            simp [intOf]; omega

    · by_cases h120 : 120 ≤ n
      · have hk3 : k ≤ n := by omega
        have hk4 : ¬ k < 120 := by omega
        go_wp2_with fail
        refine (alive_any _).mono ?_
        rintro e w9 ⟨rfl, hc⟩
        have HC9 : Hid (Chg (fun _ => False) w w9) := HC5.out.trans (hc.mono fun _ _ h => h.elim)
        clear hc
        go_wp2_with fail
        go_ret
        exact ⟨rfl, HC9.out⟩
      · have hk3 : ¬ k ≤ n := by omega
        have hkn1 : k = n + 1 := by omega
        obtain ⟨hq0, hxy⟩ := HE.out hkn1
        have hxy' : ((x : Int) == y) = true := by rw [hxy]; simp
        have HF5' : Hid (IsFeed wr p (1, [(1, ([], 0))]) S5) := by rw [← hq0]; exact HF5.out
        clear hkn1 hq0 hxy
        go_wp2_with fail
        refine (alive_any _).mono ?_
        rintro e w9 ⟨rfl, hc⟩
        have HC9 : Hid (Chg (fun _ => False) w w9) := HC5.out.trans (hc.mono fun _ _ h => h.elim)
        have HF9 : Hid (IsFeed w9 p (1, [(1, ([], 0))]) S5) := HF5'.out.keep hc fun _ _ h => h
        clear hc
        go_wp2_with fail
        refine (waits_is HF9.out (1, ([], 0)) (by simp)).mono ?_
        rintro e w10 ⟨rfl, rfl⟩
        have hw0 : waitsI (([], 0) : List It × Nat) = 0 := rfl
        simp only [hw0]
        go_wp2_with fail
        go_ret
        exact ⟨rfl, HC9.out⟩
end Go.Proofs.Ytdljloohgidbfaa
