/-
  The walk of FeedOften.
-/
import Derived.Test.YtdljloohgidbfaaOftenD
import Derived.Test.YtdljloohgidbfaaArgs
namespace Go.Proofs.Ytdljloohgidbfaa
open Go Go.RowKit Go.Mem Go.Args

set_option maxRecDepth 100000 in
set_option maxHeartbeats 4000000 in
theorem often_walk (a : Option Addr) (n cap : Nat) (zs : List Int) (w : World) (hr : RdSl w 1 (.slice a n cap) (zs.map fun z => [.int .u8 z])) (hz : ∀ z ∈ zs, (Lit.int .u8 z).wf = true) (hn : n = zs.length) :
    Calls Try.prog 3 #[.slice a n cap] w fun e w' => e = .returned (.bool true) ∧ Chg (fun _ => False) w w' := by
  have HR : Hid (RdSl w 1 (.slice a n cap) (zs.map fun z => [.int .u8 z])) := hr
  have HZ : Hid (∀ z ∈ zs, (Lit.int .u8 z).wf = true) := hz
  have HN : Hid (n = zs.length) := hn
  clear hr hz hn
  go_enter Try.func3, Try.ntmps3
  go_wp2_with fail
  refine (new_any _).mono ?_
  rintro e w1 ⟨p, S, rfl, hF, hS, hc⟩
  have HC1 : Hid (Chg (fun _ => False) w w1) := hc
  have HS1 : Hid (∀ k, S k → w.heap.size ≤ k) := hS
  have HF1 : Hid (IsFeed w1 p (0, []) S) := hF
  clear hc hS hF
  go_wp2_with fail
  refine (watch_is HF1.out (by simp) (by simp)).mono ?_
  rintro e w2 ⟨rfl, S2, hF, hS, hc⟩
  have HC2 : Hid (Chg (fun _ => False) w w2) := HC1.out.trans (hc.mono fun k _ h => .inr (HS1.out k h))
  have HS2 : Hid (∀ k, S2 k → w.heap.size ≤ k) := fun k hk => by rcases hS k hk with h | h; exact HS1.out k h; exact Nat.le_trans HC1.out.size h
  have HF2 : Hid (IsFeed w2 p (1, [(1, [], 0)]) S2) := hF
  clear hF hS hc HF1 HC1 HS1
  go_wp2_with fail
  go_loopw [6, 7] (fun nx i wr => ∃ (k x : Nat) (S : Nat → Prop), k ≤ n ∧ k ≤ 100 ∧ x ≤ 1 + 16 * k ∧ i = .int .i64 k ∧ nx = .int .u64 x ∧ IsFeed wr p (1, [(1, [], 0)]) S ∧ (∀ k, S k → w.heap.size ≤ k) ∧ Chg (fun _ => False) w wr) (fun _ i _ => n - (intOf i).toNat)
  case atStart => exact ⟨0, 1, S2, Nat.zero_le _, by omega, by omega, rfl, rfl, HF2.out, HS2.out, HC2.out⟩
  case round =>
    obtain ⟨k, x, S3, hk, hk1, hx, rfl, rfl, hF, hS, hc⟩ := hrel
    have HF3 : Hid (IsFeed wr p (1, [(1, [], 0)]) S3) := hF
    have HS3 : Hid (∀ k, S3 k → w.heap.size ≤ k) := hS
    have HC3 : Hid (Chg (fun _ => False) w wr) := hc
    clear hF hS hc HF2 HS2 HC2
    by_cases hkn : k < n
    · by_cases hk100 : k < 100
      · obtain ⟨z, hzk⟩ : ∃ z, zs[k]? = some z := ⟨_, List.getElem?_eq_getElem (by rw [← HN.out]; exact hkn)⟩
        have hzw := HZ.out z (List.mem_of_getElem? hzk)
        have hz0 : 0 ≤ z ∧ z ≤ 255 := u8_of hzw
        obtain ⟨g, o, c, hva, hra⟩ := HR.out.at (HC3.out.below (Nat.le_refl _) fun _ _ h => h.elim) (i := k) (x := [.int .u8 z]) (by rw [List.getElem?_map, hzk]; rfl)
        have ea : a = some ⟨g, o, none⟩ := (Value.slice.inj hva).1
        subst ea
        have hcell : wr.cell? ⟨g, o + k, none⟩ = some (.int .u8 z) := by
          have := hra 0 _ rfl
          simpa using this
        obtain ⟨m, hm⟩ : ∃ m : Nat, z % 17 = (m : Int) := ⟨(z % 17).toNat, by omega⟩
        have hm16 : m ≤ 16 := by omega
        obtain ⟨hz1, hz2⟩ := hz0
        clear hva hra hzw hzk
        go_wp2_with fail
        refine (events_is x (m : Int) _ (by omega)).mono ?_
        rintro e w3 ⟨v, rfl, hsl, hnew, hb⟩
        have hmin : min ((m : Int).toNat) 40 = m := by omega
        rw [hmin] at hsl
        have HC4 : Hid (Chg (fun _ => False) w w3) := HC3.out.trans ((Chg.of_below hb).mono fun k _ h => .inr (Nat.le_trans HC3.out.size h))
        have HF4 : Hid (IsFeed w3 p (1, [(1, [], 0)]) S3) := HF3.out.keep (Chg.of_below hb) fun k hk h => by have := HF3.out.lt hk; omega
        have HSL : Hid (Sl w3 38 34 v ((evs x m).map Ev.cells)) := hsl
        clear hsl hnew hb HF3 HC3 hcell hmin
        go_wp2_with fail
        refine (push_is HF4.out v (evs x m) HSL.out (by rw [evs_length]; omega) (by intro a ha; simp at ha; subst ha; decide)).mono ?_
        rintro e w4 ⟨rfl, S4, hF, hS, hc⟩
        have HC5 : Hid (Chg (fun _ => False) w w4) := HC4.out.trans (hc.mono fun k _ h => .inr (HS3.out k h))
        have HS5 : Hid (∀ k, S4 k → w.heap.size ≤ k) := fun k hk => by rcases hS k hk with h | h; exact HS3.out k h; exact Nat.le_trans HC4.out.size h
        have HF5 : Hid (IsFeed w4 p (1, [(1, (evs x m).map Ev.it, 0)]) S4) := by
          unfold Hid
          have e1 : pushA (evs x m) (1, [], 0) = (1, (evs x m).map Ev.it, 0) := by unfold pushA; rw [often_state x m hm16]
          have := hF
          simp only [List.map_cons, List.map_nil, e1] at this
          exact this
        clear hF hS hc HF4 HC4 HS3 HSL
        go_wp2_with fail
        refine (take_is HF5.out (1, (evs x m).map Ev.it, 0) (by simp) 16).mono ?_
        rintro e w5 ⟨v5, rfl, hsl, hnew, S5, hF, hS, hc⟩
        simp only [often_take x m hm16] at hsl
        have HC6 : Hid (Chg (fun _ => False) w w5) := HC5.out.trans (hc.mono fun k _ h => .inr (HS5.out k h))
        have HS6 : Hid (∀ k, S5 k → w.heap.size ≤ k) := fun k hk => by rcases hS k hk with h | h; exact HS5.out k h; exact Nat.le_trans HC5.out.size h
        have HF6 : Hid (IsFeed w5 p (1, [(1, [], 0)]) S5) := by
          unfold Hid
          have e1 : takeA 1 16 (1, (evs x m).map Ev.it, 0) = (1, [], 0) := by unfold takeA; rw [if_pos rfl, often_take x m hm16]
          have := hF
          simp only [List.map_cons, List.map_nil, e1] at this
          exact this
        obtain ⟨a5, c5, hv5, _⟩ := Sl.shape2 hsl
        rw [List.length_map, List.length_map, evs_length] at hv5
        subst hv5
        have HSL : Hid (Sl w5 40 35 (.slice a5 m c5) (((evs x m).map Ev.it).map It.cells)) := hsl
        clear hF hS hc HF5 HC5 HS5 hsl hnew
        go_wp2_with fail
        go_loop [11] (fun i => ∃ j : Nat, j ≤ m ∧ i = .int .i64 j) (fun i => m - (intOf i).toNat)
        case atStart => exact ⟨0, Nat.zero_le _, rfl⟩
        case round =>
          obtain ⟨j, hj, rfl⟩ := hrel
          by_cases hjm : j < m
          · obtain ⟨g5, o5, c6, hv5, hra⟩ := HSL.out.at (i := j) (x := itC (1 + ((j % 3 : Nat) : Int)) j ((x + j : Nat) : Int) 0) (by rw [getD_at (by simp [evs_length]; exact hjm), often_item x m j hjm])
            have ea : a5 = some ⟨g5, o5, none⟩ := (Value.slice.inj hv5).1
            subst ea
            have hl0 : w5.cell? ⟨g5, o5 + j * 35 + 34, none⟩ = some (.int .u64 0) := hra 34 _ rfl
            have hl1 : w5.cell? ⟨g5, o5 + j * 35 + 33, none⟩ = some (.int .u64 ((x : Int) + j)) := by
              have := hra 33 _ rfl
              rw [this]; simp
            clear hv5 hra
            go_wp2_with fail
            go_round
            case rel => exact ⟨j + 1, by omega, by go_num⟩
            case measure => simp [intOf]; omega
          · have HJ : Hid (j = m) := by unfold Hid; omega
            go_wp2_with fail
            refine ⟨⟨k + 1, x + m, S5, by omega, by omega, by omega, by go_num, by go_num, HF6.out, HS6.out, HC6.out⟩, ?_⟩
            simp [intOf]; omega
      · go_wp2_with fail
        refine (alive_any _).mono ?_
        rintro e w9 ⟨rfl, hc⟩
        have HC9 : Hid (Chg (fun _ => False) w w9) := HC3.out.trans (hc.mono fun _ _ h => h.elim)
        clear hc
        go_wp2_with fail
        go_ret
        exact ⟨rfl, HC9.out⟩
    · go_wp2_with fail
      refine (alive_any _).mono ?_
      rintro e w9 ⟨rfl, hc⟩
      have HC9 : Hid (Chg (fun _ => False) w w9) := HC3.out.trans (hc.mono fun _ _ h => h.elim)
      clear hc
      go_wp2_with fail
      go_ret
      exact ⟨rfl, HC9.out⟩
end Go.Proofs.Ytdljloohgidbfaa
