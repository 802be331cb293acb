/-
  The walk of FeedApart.
-/
import Derived.Test.YtdljloohgidbfaaApartD
namespace Go.Proofs.Ytdljloohgidbfaa
open Go Go.RowKit Go.Mem Go.Args

set_option maxRecDepth 100000 in
set_option maxHeartbeats 8000000 in
theorem apart_walk (a : Option Addr) (n cap : Nat) (xs : List (List Int)) (w : World) (hr : RdSl w 3 (.slice a n cap) (xs.map opC)) (hx : ∀ x ∈ xs, x.length = 3) (hn : n = xs.length) (hcap : n ≤ maxLen) :
    Calls Try.prog 5 #[.slice a n cap] w fun e w' => e = .returned (.bool true) ∧ Chg (fun _ => False) w w' := by
  unfold maxLen at hcap
  have HR : Hid (RdSl w 3 (.slice a n cap) (xs.map opC)) := hr
  have HX : Hid (∀ x ∈ xs, x.length = 3) := hx
  have HN : Hid (n = xs.length) := hn
  clear hr hx hn
  go_enter Try.func5, Try.ntmps5
  go_wp2_with fail
  refine (new_any _).mono ?_
  rintro e w1 ⟨pa, SA, rfl, hF, hS, hc⟩
  have HC1 : Hid (Chg (fun _ => False) w w1) := hc
  have HSA : Hid (∀ k, SA k → w.heap.size ≤ k) := hS
  have HFA : Hid (IsFeed w1 pa (0, []) SA) := hF
  clear hc hS hF
  go_wp2_with fail
  refine (new_any _).mono ?_
  rintro e w2 ⟨p1, S1, rfl, hF, hS, hc⟩
  have HC2 : Hid (Chg (fun _ => False) w w2) := HC1.out.trans (hc.mono fun _ _ h => h.elim)
  have HFA2 : Hid (IsFeed w2 pa (0, []) SA) := HFA.out.keep hc fun _ _ h => h
  have HS1 : Hid (∀ k, S1 k → w1.heap.size ≤ k) := hS
  have HF1 : Hid (IsFeed w2 p1 (0, []) S1) := hF
  have HLT : Hid (∀ k, SA k → k < w1.heap.size) := fun k hk => HFA.out.lt hk
  clear hc hS hF
  go_wp2_with fail
  refine (new_any _).mono ?_
  rintro e w3 ⟨p2, S2, rfl, hF, hS, hc⟩
  have HT : Hid (Tri w w3 w3 (fun _ => False) pa p1 p2 (0, []) (0, []) (0, []) SA S1 S2) := by
    have h12 := HC1.out.size
    have h23 := HC2.out.size
    refine ⟨HFA2.out.keep hc fun _ _ h => h, HF1.out.keep hc fun _ _ h => h, hF, fun k h1 h2 => ?_, fun k h1 h2 => ?_, fun k h1 h2 => ?_, fun k hk => ?_, HC2.out.trans (hc.mono fun _ _ h => h.elim), fun k hk => hk.elim⟩
    · have := HLT.out k h1; have := HS1.out k h2; omega
    · have := HFA2.out.lt h1; have := hS k h2; omega
    · have := HF1.out.lt h1; have := hS k h2; omega
    · rcases hk with hk | hk | hk
      · exact HSA.out k hk
      · exact Nat.le_trans h12 (HS1.out k hk)
      · exact Nat.le_trans h23 (hS k hk)
  clear hc hS hF HC1 HSA HFA HC2 HFA2 HS1 HF1 HLT
  go_wp2_with fail
  refine (watch_is HT.out.a (by simp) (by simp)).mono ?_
  rintro e w4 ⟨rfl, SA4, hF, hS, hc⟩
  have HT4 : Hid (Tri w w4 w3 (fun _ => False) pa p1 p2 (1, [(1, [], 0)]) (0, []) (0, []) SA4 S1 S2) := HT.out.stepA hF hS hc
  clear hF hS hc HT
  go_wp2_with fail
  refine (watch_is HT4.out.a (by simp) (by simp)).mono ?_
  rintro e w5 ⟨rfl, SA5, hF, hS, hc⟩
  have HT5 : Hid (Tri w w5 w3 (fun _ => False) pa p1 p2 (2, [(1, [], 0), (2, [], 0)]) (0, []) (0, []) SA5 S1 S2) := HT4.out.stepA hF hS hc
  clear hF hS hc HT4
  go_wp2_with fail
  refine (watch_is HT5.out.one (by simp) (by simp)).mono ?_
  rintro e w6 ⟨rfl, S16, hF, hS, hc⟩
  have HT6 : Hid (Tri w w6 w3 (fun _ => False) pa p1 p2 (2, [(1, [], 0), (2, [], 0)]) (1, [(1, [], 0)]) (0, []) SA5 S16 S2) := HT5.out.step1 hF hS hc
  clear hF hS hc HT5
  go_wp2_with fail
  refine (watch_is HT6.out.two (by simp) (by simp)).mono ?_
  rintro e w7 ⟨rfl, S27, hF, hS, hc⟩
  have HI : Hid (ApartI w pa p1 p2 n 0 1 w7) := ⟨([], 0), ([], 0), SA5, S16, S27, by omega, by omega, by omega, by simp, by simp, by simp, by simp,
    (HT6.out.step2 hF hS hc).guard (HT6.out.step2 hF hS hc) fun k h => h.elim⟩
  clear hF hS hc HT6
  go_wp2_with fail
  go_loopw [14, 15] (fun nx i wr => ∃ (k x : Nat), i = .int .i64 k ∧ nx = .int .u64 x ∧ ApartI w pa p1 p2 n k x wr) (fun _ i _ => n - (intOf i).toNat)
  case atStart => exact ⟨0, 1, rfl, rfl, HI.out⟩
  case round =>
    obtain ⟨k, x, rfl, rfl, hI⟩ := hrel
    obtain ⟨qa, qb, SA, S1, S2, hk1, hk2, hx1, hla, hlb, hna, hnb, hT⟩ := hI
    have HT : Hid (Tri w wr wr (fun _ => False) pa p1 p2 (2, [(1, qa), (2, qb)]) (1, [(1, qa)]) (1, [(1, qb)]) SA S1 S2) := hT
    clear hT HI
    by_cases hkn : k < n
    · by_cases hk100 : k < 100
      · obtain ⟨z, hz⟩ : ∃ z, xs[k]? = some z := ⟨_, List.getElem?_eq_getElem (by rw [← HN.out]; exact hkn)⟩
        obtain ⟨z0, z1, N, hze, hzc⟩ := opC3 (HX.out z (List.mem_of_getElem? hz))
        obtain ⟨g, o, c, hva, hra⟩ := HR.out.at (HT.out.chg.below (Nat.le_refl _) fun _ _ h => h.elim) (i := k) (x := opC z) (by rw [List.getElem?_map, hz]; rfl)
        have ea : a = some ⟨g, o, none⟩ := (Value.slice.inj hva).1
        subst ea
        rw [hzc] at hra
        have hc0 : wr.cell? ⟨g, o + k * 3, none⟩ = some (.int .i64 z0) := by have := hra 0 _ rfl; simpa using this
        have hc1 : wr.cell? ⟨g, o + k * 3 + 1, none⟩ = some (.int .u64 z1) := hra 1 _ rfl
        have hc2 : wr.cell? ⟨g, o + k * 3 + 2, none⟩ = some (.int .i64 N) := hra 2 _ rfl
        have HT0 : Hid (Tri w (wr.alloc (.cells #[.int .i64 z0, .int .u64 z1, .int .i64 N] 45)) (wr.alloc (.cells #[.int .i64 z0, .int .u64 z1, .int .i64 N] 45)) (fun k => k = wr.heap.size) pa p1 p2 (2, [(1, qa), (2, qb)]) (1, [(1, qa)]) (1, [(1, qb)]) SA S1 S2) :=
          (HT.out.stepN ((Chg.refl _ wr).alloc _)).guard HT.out fun k hk => .inl ⟨by omega, by simp; omega⟩
        clear hva hra hze hzc hz
        go_wp2_with fail
        · refine (events_is x N _ (by omega)).mono ?_
          rintro e w8 ⟨v, rfl, hsl, hnew, hb⟩
          obtain ⟨m, hm⟩ : ∃ m, m = min N.toNat 40 := ⟨_, rfl⟩
          rw [← hm] at hsl
          have hm40 : m ≤ 40 := by omega
          have HT8 := HT0.out.stepN ((Chg.of_below hb).mono (T := fun _ => False) fun k h1 h2 => by omega)
          have HT9 : Hid (Tri w w8 w8 (fun k => v.ownBlock = some k) pa p1 p2 (2, [(1, qa), (2, qb)]) (1, [(1, qa)]) (1, [(1, qb)]) SA S1 S2) := HT8.guard HT0.out fun k hk => .inl ⟨hnew k hk, hsl.lt hk⟩
          obtain ⟨a6, c6, hv6, _⟩ := Sl.shape2 hsl
          rw [List.length_map, evs_length] at hv6
          subst hv6
          have HSL : Hid (Sl w8 38 34 (.slice a6 m c6) ((evs x m).map Ev.cells)) := hsl
          clear hsl hnew hb HT8 HT0 hm hc0 hc1 hc2
          go_wp2_with fail
          refine (push_is HT9.out.a _ (evs x m) HSL.out (by rw [evs_length]; omega) (by intro a ha; simp at ha; rcases ha with rfl | rfl <;> (simp only; omega))).mono ?_
          rintro e w9 ⟨rfl, SA9, hF, hS, hc⟩
          have HT10 : Hid (Tri w w9 w8 (fun k => (Value.slice a6 m c6).ownBlock = some k) pa p1 p2 (2, [(1, (evs x m).foldl pushI qa), (2, (evs x m).foldl pushI qb)]) (1, [(1, qa)]) (1, [(1, qb)]) SA9 S1 S2) := HT9.out.stepA hF hS hc
          have HSL9 : Hid (Sl w9 38 34 (.slice a6 m c6) ((evs x m).map Ev.cells)) := HSL.out.keep fun k hk => (HT10.out.kept k hk).2.2.2.2
          clear hF hS hc HT9
          go_wp2_with fail
          refine (push_is HT10.out.one _ (evs x m) HSL9.out (by rw [evs_length]; omega) (by intro a ha; simp at ha; subst ha; simp only; omega)).mono ?_
          rintro e w10 ⟨rfl, S110, hF, hS, hc⟩
          have HT11 : Hid (Tri w w10 w8 (fun k => (Value.slice a6 m c6).ownBlock = some k) pa p1 p2 (2, [(1, (evs x m).foldl pushI qa), (2, (evs x m).foldl pushI qb)]) (1, [(1, (evs x m).foldl pushI qa)]) (1, [(1, qb)]) SA9 S110 S2) := HT10.out.step1 hF hS hc
          have HSL10 : Hid (Sl w10 38 34 (.slice a6 m c6) ((evs x m).map Ev.cells)) := HSL.out.keep fun k hk => (HT11.out.kept k hk).2.2.2.2
          clear hF hS hc HT10 HSL9
          go_wp2_with fail
          refine (push_is HT11.out.two _ (evs x m) HSL10.out (by rw [evs_length]; omega) (by intro a ha; simp at ha; subst ha; simp only; omega)).mono ?_
          rintro e w11 ⟨rfl, S211, hF, hS, hc⟩
          have HT12 : Hid (Tri w w11 w8 (fun k => (Value.slice a6 m c6).ownBlock = some k) pa p1 p2 (2, [(1, (evs x m).foldl pushI qa), (2, (evs x m).foldl pushI qb)]) (1, [(1, (evs x m).foldl pushI qa)]) (1, [(1, (evs x m).foldl pushI qb)]) SA9 S110 S211) := HT11.out.step2 hF hS hc
          have hfa := foldl_lost (evs x m) qa
          have hfb := foldl_lost (evs x m) qb
          rw [evs_length] at hfa hfb
          have HFA : Hid (((evs x m).foldl pushI qa).2 ≤ qa.2 + m ∧ ((evs x m).foldl pushI qb).2 ≤ qb.2 + m) := ⟨hfa, hfb⟩
          clear hF hS hc HT11 HSL10 hfa hfb
          go_wp2_with fail
          have hfa := HFA.out.1
          have hfb := HFA.out.2
          refine ⟨⟨k + 1, x + m, by go_num, by go_num, _, _, SA9, S110, S211, by omega, by omega, by omega, by omega, by omega, foldl_le _ _ hna, foldl_le _ _ hnb, HT12.out.guard HT12.out fun k h => h.elim⟩, ?_⟩
          simp [intOf]; omega

        · refine (take_is_s HT0.out.a (1, qa) (by simp) N).mono ?_
          rintro e w8 ⟨v, rfl, hsl, hnew, SA8, hF, hS, hc⟩
          have h8 := HT0.out.stepA hF (fun k hk => .inl (hS k hk)) hc
          have hob : w8.cell? ⟨wr.heap.size, 2, none⟩ = some (.int .i64 N) := by
            have h1 := (h8.kept wr.heap.size rfl).2.2.2.2
            rw [heap_alloc_new] at h1
            simp [World.cell?, h1]
          have h9 : Tri w w8 w8 (fun k => v.ownBlock = some k) pa p1 p2 (2, [(1, (takeI qa N).2), (2, qb)]) (1, [(1, qa)]) (1, [(1, qb)]) SA8 S1 S2 :=
            ⟨h8.a, h8.one, h8.two, h8.d1, h8.d2, h8.d3, h8.new, h8.chg, fun k hk => ⟨fun h' => by have := HT0.out.a.lt (hS k h'); have := hnew k hk; omega, fun h' => by have := HT0.out.one.lt h'; have := hnew k hk; omega, fun h' => by have := HT0.out.two.lt h'; have := hnew k hk; omega, hsl.lt hk, rfl⟩⟩
          have HT9 : Hid (Tri w w8 w8 (fun k => v.ownBlock = some k) pa p1 p2 (2, [(1, (takeI qa N).2), (2, qb)]) (1, [(1, qa)]) (1, [(1, qb)]) SA8 S1 S2) := h9
          have hsl : Sl w8 40 35 v ((takeI qa N).1.map It.cells) := hsl
          have HSL : Hid (Sl w8 40 35 v ((takeI qa N).1.map It.cells)) := hsl
          clear hsl hnew hF hS hc h8 h9 HT0 hc0 hc1 hc2
          go_wp2_with fail
          refine (take_is HT9.out.one (1, qa) (by simp) N).mono ?_
          rintro e w9 ⟨v2, rfl, hsl, hnew, S19, hF, hS, hc⟩
          have HT10 : Hid (Tri w w9 w8 (fun k => v.ownBlock = some k) pa p1 p2 (2, [(1, (takeI qa N).2), (2, qb)]) (1, [(1, (takeI qa N).2)]) (1, [(1, qb)]) SA8 S19 S2) := HT9.out.step1 hF hS hc
          have HSA : Hid (Sl w9 40 35 v ((takeI qa N).1.map It.cells)) := HSL.out.keep fun k hk => (HT10.out.kept k hk).2.2.2.2
          have HSB : Hid (Sl w9 40 35 v2 ((takeI qa N).1.map It.cells)) := hsl
          have h17 := take_17 qa N (by omega)
          clear hsl hnew hF hS hc HT9 HSL hob
          go_wp2_with fail
          refine (same_any v v2 (takeI qa N).1 (takeI qa N).1 _ HSA.out HSB.out (by omega)).mono ?_
          rintro e w10 ⟨r, rfl, hr, hc⟩
          have hrt : r = true := hr.2 rfl
          subst hrt
          have HT11 : Hid (Tri w w10 w8 (fun k => v.ownBlock = some k) pa p1 p2 (2, [(1, (takeI qa N).2), (2, qb)]) (1, [(1, (takeI qa N).2)]) (1, [(1, qb)]) SA8 S19 S2) := HT10.out.stepN hc
          have HLA : Hid ((takeI qa N).2.2 ≤ qa.2 ∧ qb.2 ≤ qb.2) := ⟨take_lost qa N, Nat.le_refl _⟩
          clear hr hc HT10 HSA HSB h17
          go_wp2_with fail
          have hfa := HLA.out.1
          have hfb := HLA.out.2
          refine ⟨⟨k + 1, x, by go_num, rfl, _, _, SA8, S19, S2, by omega, by omega, by omega, by omega, by omega, take_few _ _ hna, hnb, HT11.out.guard HT11.out fun k h => h.elim⟩, ?_⟩
          simp [intOf]; omega

        · refine (take_is_s HT0.out.a (2, qb) (by simp) N).mono ?_
          rintro e w8 ⟨v, rfl, hsl, hnew, SA8, hF, hS, hc⟩
          have h8 := HT0.out.stepA hF (fun k hk => .inl (hS k hk)) hc
          have hob : w8.cell? ⟨wr.heap.size, 2, none⟩ = some (.int .i64 N) := by
            have h1 := (h8.kept wr.heap.size rfl).2.2.2.2
            rw [heap_alloc_new] at h1
            simp [World.cell?, h1]
          have h9 : Tri w w8 w8 (fun k => v.ownBlock = some k) pa p1 p2 (2, [(1, qa), (2, (takeI qb N).2)]) (1, [(1, qa)]) (1, [(1, qb)]) SA8 S1 S2 :=
            ⟨h8.a, h8.one, h8.two, h8.d1, h8.d2, h8.d3, h8.new, h8.chg, fun k hk => ⟨fun h' => by have := HT0.out.a.lt (hS k h'); have := hnew k hk; omega, fun h' => by have := HT0.out.one.lt h'; have := hnew k hk; omega, fun h' => by have := HT0.out.two.lt h'; have := hnew k hk; omega, hsl.lt hk, rfl⟩⟩
          have HT9 : Hid (Tri w w8 w8 (fun k => v.ownBlock = some k) pa p1 p2 (2, [(1, qa), (2, (takeI qb N).2)]) (1, [(1, qa)]) (1, [(1, qb)]) SA8 S1 S2) := h9
          have hsl : Sl w8 40 35 v ((takeI qb N).1.map It.cells) := hsl
          have HSL : Hid (Sl w8 40 35 v ((takeI qb N).1.map It.cells)) := hsl
          clear hsl hnew hF hS hc h8 h9 HT0 hc0 hc1 hc2
          go_wp2_with fail
          refine (take_is HT9.out.two (1, qb) (by simp) N).mono ?_
          rintro e w9 ⟨v2, rfl, hsl, hnew, S19, hF, hS, hc⟩
          have HT10 : Hid (Tri w w9 w8 (fun k => v.ownBlock = some k) pa p1 p2 (2, [(1, qa), (2, (takeI qb N).2)]) (1, [(1, qa)]) (1, [(1, (takeI qb N).2)]) SA8 S1 S19) := HT9.out.step2 hF hS hc
          have HSA : Hid (Sl w9 40 35 v ((takeI qb N).1.map It.cells)) := HSL.out.keep fun k hk => (HT10.out.kept k hk).2.2.2.2
          have HSB : Hid (Sl w9 40 35 v2 ((takeI qb N).1.map It.cells)) := hsl
          have h17 := take_17 qb N (by omega)
          clear hsl hnew hF hS hc HT9 HSL hob
          go_wp2_with fail
          refine (same_any v v2 (takeI qb N).1 (takeI qb N).1 _ HSA.out HSB.out (by omega)).mono ?_
          rintro e w10 ⟨r, rfl, hr, hc⟩
          have hrt : r = true := hr.2 rfl
          subst hrt
          have HT11 : Hid (Tri w w10 w8 (fun k => v.ownBlock = some k) pa p1 p2 (2, [(1, qa), (2, (takeI qb N).2)]) (1, [(1, qa)]) (1, [(1, (takeI qb N).2)]) SA8 S1 S19) := HT10.out.stepN hc
          have HLA : Hid (qa.2 ≤ qa.2 ∧ (takeI qb N).2.2 ≤ qb.2) := ⟨Nat.le_refl _, take_lost qb N⟩
          clear hr hc HT10 HSA HSB h17
          go_wp2_with fail
          have hfa := HLA.out.1
          have hfb := HLA.out.2
          refine ⟨⟨k + 1, x, by go_num, rfl, _, _, SA8, S1, S19, by omega, by omega, by omega, by omega, by omega, hna, take_few _ _ hnb, HT11.out.guard HT11.out fun k h => h.elim⟩, ?_⟩
          simp [intOf]; omega

        · refine ⟨⟨k + 1, x, by go_num, rfl, qa, qb, SA, S1, S2, by omega, by omega, by omega, by omega, by omega, hna, hnb, HT0.out.guard HT0.out fun k h => h.elim⟩, ?_⟩
          simp [intOf]; omega

      · go_wp2_with fail
        refine (alive_any _).mono ?_
        rintro e w9 ⟨rfl, hc⟩
        have HT9 : Hid (Tri w w9 wr (fun _ => False) pa p1 p2 (2, [(1, qa), (2, qb)]) (1, [(1, qa)]) (1, [(1, qb)]) SA S1 S2) := HT.out.stepN hc
        clear hc HT
        go_wp2_with fail
        refine (waits_is HT9.out.a (1, qa) (by simp)).mono ?_
        rintro e w10 ⟨rfl, rfl⟩
        go_wp2_with fail
        refine (waits_is HT9.out.one (1, qa) (by simp)).mono ?_
        rintro e w10 ⟨rfl, rfl⟩
        go_wp2_with fail
        refine (waits_is HT9.out.a (2, qb) (by simp)).mono ?_
        rintro e w10 ⟨rfl, rfl⟩
        go_wp2_with fail
        refine (waits_is HT9.out.two (1, qb) (by simp)).mono ?_
        rintro e w10 ⟨rfl, rfl⟩
        go_wp2_with fail
        go_ret
        exact ⟨rfl, HT9.out.chg⟩

    · go_wp2_with fail
      refine (alive_any _).mono ?_
      rintro e w9 ⟨rfl, hc⟩
      have HT9 : Hid (Tri w w9 wr (fun _ => False) pa p1 p2 (2, [(1, qa), (2, qb)]) (1, [(1, qa)]) (1, [(1, qb)]) SA S1 S2) := HT.out.stepN hc
      clear hc HT
      go_wp2_with fail
      refine (waits_is HT9.out.a (1, qa) (by simp)).mono ?_
      rintro e w10 ⟨rfl, rfl⟩
      go_wp2_with fail
      refine (waits_is HT9.out.one (1, qa) (by simp)).mono ?_
      rintro e w10 ⟨rfl, rfl⟩
      go_wp2_with fail
      refine (waits_is HT9.out.a (2, qb) (by simp)).mono ?_
      rintro e w10 ⟨rfl, rfl⟩
      go_wp2_with fail
      refine (waits_is HT9.out.two (1, qb) (by simp)).mono ?_
      rintro e w10 ⟨rfl, rfl⟩
      go_wp2_with fail
      go_ret
      exact ⟨rfl, HT9.out.chg⟩

end Go.Proofs.Ytdljloohgidbfaa
