/-
  The contract of Sort, of the reference.
-/
import Derived.Test.YtnmadkallkoadaaRSortD
import Derived.Test.YtnmadkallkoadaaCalls2
import Derived.Test.YtnmadkallkoadaaInv
import Derived.BigQuiet
import Derived.Laws.OwnMore
import Derived.Deep.RegionWith
namespace Go.Proofs.Ytnmadkallkoadaa
open Go.RowKit Go.GMath
attribute [local go_sem] run25 run40 run_store_float

set_option maxRecDepth 100000 in
set_option maxHeartbeats 8000000 in
theorem rsort_says : SortSays 31 := by
  intro b off n cap zs w hl hpos hn hz hc
  obtain ⟨i0, hi, hz0, hz1, hz2⟩ : ∃ i0, Try.prog.info? 22 = some i0 ∧ i0.zero = some (.float .f64 0) ∧ i0.size = 1 ∧ i0.bytes = 8 := by
    have h := info22
    cases hq : Try.prog.info? 22 with
    | none => rw [hq] at h; cases h
    | some i0 => rw [hq] at h; simp at h; exact ⟨i0, rfl, h.1, h.2.1, h.2.2⟩
  have hlb0 := World.block_lt_of_cell? w _ (hc 0 hpos)
  simp only at hlb0
  have hlb : Hid (b < w.heap.size) := hlb0
  have HL : Hid (zs.length = n) := hl
  have HZ : Hid (∀ x ∈ zs, U64 x) := hz
  have HC : Hid (∀ k, k < n → w.cell? ⟨b, off + k, none⟩ = some (.float .f64 (zs.getD k 0))) := hc
  clear hl hz hc hlb0
  go_enter Try.func31, Try.ntmps31
  go_wp2
  go_loopw [3, 4] (fun v i wr => ∃ (k : Nat) (S : List Nat), k ≤ n ∧ i = .int .i64 k ∧ S.Perm (zs.take k) ∧ Ord S ∧ wr.ownsRow w.heap.size 22 1 v k (S.map (Value.float .f64)) ∧ Below w.heap.size w wr) (fun _ i _ => n - (intOf i).toNat)
  case atStart => exact ⟨0, [], by omega, rfl, by simp, fun a b _ h => by simp at h, World.ownsRow_nil _ _ _ _, Below.refl _ _⟩
  case round =>
    obtain ⟨k, S, hk, rfl, hp0, ho0, hown, hnx⟩ := hrel
    have HP : Hid (S.Perm (zs.take k)) := hp0
    have HO : Hid (Ord S) := ho0
    have HSL : Hid (S.length = k) := by show S.length = k; rw [hp0.length_eq, List.length_take, HL.out]; omega
    have HW : Hid (wr.ownsRow w.heap.size 22 1 _ k (S.map (Value.float .f64))) := hown
    have HN : Hid (Below w.heap.size w wr) := hnx
    by_cases hlt : k < n
    · have hx : wr.cell? ⟨b, off + k, none⟩ = some (.float .f64 (zs.getD k 0)) := (hnx.cell (by exact hlb.out)).trans (HC.out k hlt)
      have hsz : Hid (w.heap.size ≤ wr.heap.size) := hnx.size
      have HT : Hid (zs.take (k + 1) = zs.take k ++ [zs.getD k 0]) := take_succ' zs k (by rw [HL.out]; exact hlt)
      clear hown hnx hp0 ho0
      generalize zs.getD k 0 = x at *
      have hv : ∃ p c, u3 = .slice p k c := by
        rcases HW.out.2 with ⟨hv, h0⟩ | ⟨g, c, cur, hv, _⟩
        · exact ⟨none, 0, by rw [hv, h0]⟩
        · exact ⟨_, _, hv⟩
      obtain ⟨p3, c3, rfl⟩ := hv
      go_wp2_with (first
          | (at_builtin; refine wpList_append_own _ rfl _ _ 34 rfl w.heap.size 22 i0 (.float .f64 0) 1 8 Try.underlying34 hi hz0 hz1 hz2 rfl (by decide) _ _ _ rfl (HW.out.alloc _) ⟨wr.heap.size, 0, none⟩ 1 1 [.float .f64 x] rfl rfl ?c1 ?c2 ?c3 ?c4 ?c5 ?_)
          | go_in)
      case c1 =>
        intro j u hj
        match j, hj with
        | 0, hj => simp at hj; subst hj; simp [Addr.add]
      case c2 => intro u hu; simp at hu; subst hu; rfl
      case c3 => unfold maxLen; omega
      case c4 => omega
      case c5 => have := hsz.out; simp; omega
      intro v' w2 hown' hgrow _
      obtain ⟨g, c, rfl, hg1, hg2⟩ := World.ownsRow.form hown' (by omega)
      have HG : Hid (w.heap.size ≤ g) := hg1
      have HW2 : Hid (w2.ownsRow w.heap.size 22 1 (.slice (some ⟨g, 0, none⟩) (k + 1) c) (k + 1) ((S ++ [x]).map (Value.float .f64))) := by unfold Hid; simpa using hown'
      have HN2 : Hid (Below w.heap.size w w2) := (HN.out.alloc hsz.out _).grown hgrow (by simp; have := hsz.out; omega) fun j hj => (HW.out.lt j hj).1
      clear hown' hgrow hg1 hg2 hx
      have HNE : Hid (Near (S ++ [x]) k) := by have := near_start (x := x) HO.out; rw [HSL.out] at this; exact this
      have HPM : Hid ((S ++ [x]).Perm (zs.take (k + 1))) := by unfold Hid; rw [HT.out]; exact List.Perm.append_right _ HP.out
      clear HP HO HSL HW HN
      generalize S ++ [x] = S0 at *
      obtain ⟨wo, hwo⟩ : ∃ wo : World, wo = wr := ⟨_, rfl⟩
      clear hsz
      go_wp2
      go_loopw [5] (fun j wr => ∃ (m : Nat) (S : List Nat), m ≤ k ∧ j = .int .i64 m ∧ S.Perm (zs.take (k + 1)) ∧ Near S m ∧ wr.ownsRow w.heap.size 22 1 (.slice (some ⟨g, 0, none⟩) (k + 1) c) (k + 1) (S.map (Value.float .f64)) ∧ Below w.heap.size w wr) (fun j _ => (intOf j).toNat)
      case atStart => exact ⟨k, S0, by omega, rfl, HPM.out, HNE.out, HW2.out, HN2.out⟩
      case round =>
        clear HW2 HN2 HNE HPM
        obtain ⟨m, S, hm, rfl, hp, hne, hown, hnx⟩ := hrel
        have HP : Hid (S.Perm (zs.take (k + 1))) := hp
        have HSL : Hid (S.length = k + 1) := by show S.length = _; rw [hp.length_eq, List.length_take, HL.out]; omega
        have HNE : Hid (Near S m) := hne
        have HW : Hid (wr.ownsRow w.heap.size 22 1 _ (k + 1) (S.map (Value.float .f64))) := hown
        have HN : Hid (Below w.heap.size w wr) := hnx
        have hcm : ∀ j, j ≤ k → wr.cell? ⟨g, j, none⟩ = some (.float .f64 (S.getD j 0)) := fun j hj => by
          have hjS : j < S.length := by rw [HSL.out]; omega
          rw [HW.out.cellAt j (by omega), List.getElem?_map, List.getElem?_eq_getElem hjS, List.getD_eq_getElem?_getD, List.getElem?_eq_getElem hjS]; rfl
        have hUS : ∀ j, j ≤ k → U64 (S.getD j 0) := fun j hj => HZ.out _ (List.mem_of_mem_take (hp.mem_iff.1 (mem_getD (by rw [HSL.out]; omega))))
        have hfr : ∀ j, wr.frozen? ⟨g, j, none⟩ = false := fun j => HW.out.frozenAt j
        clear hp hne hown hnx
        by_cases hm0 : m = 0
        · subst hm0
          have HOR : Hid (Ord S) := near_end HNE.out (.inl rfl)
          clear hcm hUS hfr
          go_wp2_with fail
          go_quiet (fail)
          go_wp2
          go_roundw
          case rel => exact ⟨k + 1, S, by omega, by go_num, HP.out, HOR.out, HW.out, (HN.out.trans ⟨rfl, rfl, rfl, Nat.le_refl _, fun _ _ => rfl⟩)⟩
          case measure => simp [intOf]; omega
        · have hca := hcm (m - 1) (by omega)
          have hcb := hcm m hm
          have hord := fun w => (rorder_any (S.getD (m - 1) 0) (S.getD m 0) w (hUS _ (by omega)) (hUS _ hm)).mono fun e w' (h : e = .returned (.int .i64 (ord (S.getD (m - 1) 0) (S.getD m 0))) ∧ w = w') => And.intro h.1 h.2.symm
          clear hcm hUS
          obtain ⟨a, ha⟩ : ∃ a, a = S.getD (m - 1) 0 := ⟨_, rfl⟩
          obtain ⟨e, he⟩ : ∃ e, e = S.getD m 0 := ⟨_, rfl⟩
          rw [← ha] at hca hord
          rw [← he] at hcb hord
          have HA : Hid (a = S.getD (m - 1) 0) := ha
          have HE : Hid (e = S.getD m 0) := he
          have hw1 : IntKind.i64.wrap ((m : Int) - 1) = ((m - 1 : Nat) : Int) := by
            rw [show ((m - 1 : Nat) : Int) = (m : Int) - 1 by omega]
            exact IntWalk.i64_in _ ⟨by omega, by omega⟩
          obtain ⟨q, hq⟩ : ∃ q, q = m - 1 := ⟨_, rfl⟩
          rw [← hq] at hca hw1
          have HQ : Hid (q = m - 1) := hq
          have hqk : (q : Int) < (k : Int) + 1 := by omega
          clear ha he hq
          have i1 : (m : Int) < (k : Int) + 1 := by omega
          have i3 : decide ((0 : Int) < (m : Int)) = true := by simp; omega
          have i4 : 0 < m := by omega
          by_cases hgt : place e < place a
          · have ho : ord a e = 1 := by unfold ord; rw [if_neg (by omega), if_pos hgt]
            rw [ho] at hord
            clear ho
            go_wp2_with fail
            go_quiet (first | (go_at_call 13; refine Calls.quiet_of_same (hord _)))
            have f1 := hfr q
            have f2 := hfr m
            have f3 : ∀ t, ((wr.drewN t).setCell ⟨g, q, none⟩ (.float .f64 e)).cell? ⟨g, m, none⟩ = some (.float .f64 e) := fun t => by
              have hq := HQ.out
              exact (World.cell?_setCell_other _ _ _ _ (by intro h; cases h; omega)).trans hcb
            have f4 : ∀ t, ((wr.drewN t).setCell ⟨g, q, none⟩ (.float .f64 e)).frozen? ⟨g, m, none⟩ = false := fun t => (World.frozen?_setCell _ _ _ _).trans f2
            clear hfr
            go_wp2_with fail
            go_region
            have HWN : Hid ((wr.drewN (nq + 1)).ownsRow w.heap.size 22 1 (.slice (some ⟨g, 0, none⟩) (k + 1) c) (k + 1) (S.map (Value.float .f64))) := HW.out
            have HNN : Hid (Below w.heap.size w (wr.drewN (nq + 1))) := HN.out.trans ⟨rfl, rfl, rfl, Nat.le_refl _, fun _ _ => rfl⟩
            have HGT : Hid (place e < place a) := hgt
            clear f1 f2 f3 f4 hca hcb hord hgt HW HN
            generalize wr.drewN (nq + 1) = wq at *
            go_wp2
            go_roundw
            case rel =>
              have hmS : m < S.length := by rw [HSL.out]; omega
              have hq := HQ.out
              refine ⟨q, swp S m, by omega, by go_num, (swp_perm (by omega) hmS).trans HP.out, ?_, ?_, ?_⟩
              · rw [hq]; exact near_step HNE.out (by omega) hmS (by rw [← HA.out, ← HE.out]; exact HGT.out)
              · have h1 := World.ownsRow.stored HWN.out q (.float .f64 e)
                have h2 := World.ownsRow.stored h1.1 m (.float .f64 a)
                have e1 : (swp S m).map (Value.float .f64) = ((S.map (Value.float .f64)).set q (.float .f64 e)).set m (.float .f64 a) := by
                  unfold swp
                  rw [List.map_set, List.map_set, HA.out, HE.out, hq]
                rw [e1]
                exact h2.1
              · exact (HNN.out.setCell (by exact HG.out) _).setCell (by exact HG.out) _
            case measure => simp [intOf]; have := HQ.out; omega
          · have ho : decide (0 < ord a e) = false := by rw [decide_eq_false_iff_not, ord_gt_place]; exact hgt
            have HOR : Hid (Ord S) := near_end HNE.out (.inr (by rw [← HA.out, ← HE.out]; omega))
            go_wp2_with fail
            go_quiet (first | (go_at_call 13; refine Calls.quiet_of_same (hord _)))
            go_wp2
            go_roundw
            case rel => exact ⟨k + 1, S, by omega, by go_num, HP.out, HOR.out, HW.out, (HN.out.trans ⟨rfl, rfl, rfl, Nat.le_refl _, fun _ _ => rfl⟩)⟩
            case measure => simp [intOf]; omega
    · have hkn : k = n := by omega
      subst hkn
      obtain ⟨g, c, hv, hg1, hg2⟩ := World.ownsRow.form hown hpos
      have hS : Hid (S = srt zs) := ord_srt ho0 (by rw [List.take_of_length_le (by rw [HL.out]; omega)] at hp0; exact hp0) HZ.out
      have HG : Hid (w.heap.size ≤ g ∧ g < wr.heap.size) := ⟨hg1, hg2⟩
      subst hv
      clear hown hnx hp0 ho0 hg1 hg2
      go_wp2
      go_ret
      refine ⟨g, c, rfl, HG.out.1, HG.out.2, fun j hj => ?_, HN.out⟩
      have hjS : j < S.length := by rw [HSL.out]; exact hj
      rw [HW.out.cellAt j (by omega), ← hS.out, List.getElem?_map, List.getElem?_eq_getElem hjS, List.getD_eq_getElem?_getD, List.getElem?_eq_getElem hjS]; rfl

set_option maxHeartbeats 1000000 in
theorem rsort_says0 : SortSays0 31 := by
  intro o cap w
  go_enter Try.func31, Try.ntmps31
  go_wp2
  refine wp_loop_rounds 1 ?_
  rw [rounds_succ]
  go_wp2
  go_ret
  exact ⟨_, _, rfl, Below.refl _ _⟩
end Go.Proofs.Ytnmadkallkoadaa
