/-
  The walk of Middle, of the reference, where a call of its Sort sorts.
-/
import Derived.Test.YtnmadkallkoadaaSortD
namespace Go.Proofs.Ytnmadkallkoadaa
open Go.RowKit Go.GMath

set_option maxRecDepth 100000 in
set_option maxHeartbeats 4000000 in
theorem rmiddle_walk (hS : SortSays 31) (b off n cap : Nat) (zs : List Nat) (w : World) (hl : zs.length = n) (hpos : 0 < n) (hn : n ≤ 200) (hz : ∀ x ∈ zs, U64 x)
    (hc : ∀ k, k < n → w.cell? ⟨b, off + k, none⟩ = some (.float .f64 (zs.getD k 0))) :
    Calls Try.prog 29 #[.slice (some ⟨b, off, none⟩) n cap] w fun e w' => e = .returned (.tuple #[.float .f64 (midX (mids zs)), .int .i64 (midE (mids zs))]) ∧ Below w.heap.size w w' := by
  have h1 := hS b off n cap zs w hl hpos hn hz hc
  have HL : Hid ((srt zs).length = n) := (srt_length zs).trans hl
  have HM : Hid (mids zs = Kt (srt zs) n) := (Kt_all HL.out).symm
  obtain ⟨i0, hi, hz0, hz1, hz2⟩ : ∃ i0, Try.prog.info? 22 = some i0 ∧ i0.zero = some (.float .f64 0) ∧ i0.size = 1 ∧ i0.bytes = 8 := by
    have h := info22
    cases hq : Try.prog.info? 22 with
    | none => rw [hq] at h; cases h
    | some i0 => rw [hq] at h; simp at h; exact ⟨i0, rfl, h.1, h.2.1, h.2.2⟩
  clear hl hz hc
  generalize srt zs = ss at *
  go_enter Try.func29, Try.ntmps29
  go_wp2_with fail
  refine h1.mono ?_
  rintro e w1 ⟨g, c, rfl, hg0, hgl0, hcell, hB0⟩
  have hg : Hid (w.heap.size ≤ g ∧ g < w1.heap.size) := ⟨hg0, hgl0⟩
  have HC : Hid (∀ k, k < n → w1.cell? ⟨g, k, none⟩ = some (.float .f64 (ss.getD k 0))) := hcell
  have HB : Hid (Below w.heap.size w w1) := hB0
  clear hg0 hgl0 hcell hB0 h1
  go_wp2
  go_loopw [4, 6] (fun v i wr => ∃ k : Nat, k ≤ n ∧ i = .int .i64 k ∧ wr.ownsRow w1.heap.size 22 1 v (Kt ss k).length ((Kt ss k).map (Value.float .f64)) ∧ Below w1.heap.size w1 wr) (fun _ i _ => n - (intOf i).toNat)
  case atStart => exact ⟨0, by omega, rfl, World.ownsRow_nil _ _ _ _, Below.refl _ _⟩
  case round =>
    obtain ⟨k, hk, rfl, hown, hnx⟩ := hrel
    by_cases hlt : k < n
    · have hx : wr.cell? ⟨g, k, none⟩ = some (.float .f64 (ss.getD k 0)) := (hnx.cell (by exact hg.out.2)).trans (HC.out k hlt)
      have hlk : Hid (k < ss.length) := by rw [HL.out]; exact hlt
      have hcnt := fun w => rcounts_any (ss.getD k 0) w
      have HO : Hid (wr.ownsRow w1.heap.size 22 1 _ (Kt ss k).length ((Kt ss k).map (Value.float .f64))) := hown
      have HN : Hid (Below w1.heap.size w1 wr) := hnx
      have hkl : Hid ((Kt ss k).length ≤ k) := Kt_le ss k
      have hsz : Hid (w1.heap.size ≤ wr.heap.size) := hnx.size
      clear hown hnx
      have HX : Hid (∃ x, x = ss.getD k 0) := ⟨_, rfl⟩
      obtain ⟨x, hxe⟩ := HX.out
      clear HX
      have HXE : Hid (x = ss.getD k 0) := hxe
      rw [← hxe] at hx hcnt
      clear hxe
      cases hcx : cntB x
      · rw [hcx] at hcnt
        have HCX : Hid (cntB x = false) := hcx
        clear hcx
        go_wp2_with (go_at_call 16; refine (hcnt _).mono ?_; rintro e w' ⟨rfl, rfl⟩)
        go_roundw
        case rel => exact ⟨k + 1, by omega, by go_num, rel_drop hlk.out (by rw [← HXE.out]; exact HCX.out) HO.out, HN.out⟩
        case measure => simp [intOf]; omega
      · rw [hcx] at hcnt
        have HCX : Hid (cntB x = true) := hcx
        clear hcx
        go_wp2_with (first
          | (go_at_call 16; refine (hcnt _).mono ?_; rintro e w' ⟨rfl, rfl⟩)
          | (at_builtin; refine wpList_append_own _ rfl _ _ 34 rfl w1.heap.size 22 i0 (.float .f64 0) 1 8 Try.underlying34 hi hz0 hz1 hz2 rfl (by decide) _ _ _ rfl (HO.out.alloc _) ⟨wr.heap.size, 0, none⟩ 1 1 [.float .f64 x] rfl rfl ?c1 ?c2 ?c3 ?c4 ?c5 ?_)
          | go_in)
        case c1 =>
          intro j u hj
          match j, hj with
          | 0, hj => simp at hj; subst hj; simp [Addr.add]
        case c2 => intro u hu; simp at hu; subst hu; rfl
        case c3 => have := hkl.out; unfold maxLen; omega
        case c4 => have := hkl.out; omega
        case c5 => have := hsz.out; simp; omega
        intro v' w2 hown' hgrow _
        have HR := rel_keep hlk.out (by rw [← HXE.out]; exact HCX.out) hsz.out HO.out HN.out (by rw [← HXE.out]; exact hown') hgrow
        have HR2 : Hid _ := HR
        clear HR hown' hgrow
        go_wp2
        go_roundw
        case rel => exact ⟨k + 1, by omega, by go_num, HR2.out.1, HR2.out.2⟩
        case measure => simp [intOf]; omega
    · have hkn : k = n := by omega
      subst hkn
      have HO : Hid (wr.ownsRow w1.heap.size 22 1 _ (Kt ss k).length ((Kt ss k).map (Value.float .f64))) := hown
      have HN : Hid (Below w1.heap.size w1 wr) := hnx
      have HLE : Hid ((Kt ss k).length ≤ k) := Kt_le ss k
      have HM2 : Hid (mids zs = Kt ss k) := HM.out
      clear HM hown hnx
      generalize Kt ss k = ms at *
      have hfin : Below w.heap.size w wr := HB.out.trans (HN.out.mono HB.out.size)
      have HF : Hid (Below w.heap.size w wr) := hfin
      clear hfin HN
      by_cases h0 : ms.length = 0
      · obtain rfl : ms = [] := List.length_eq_zero_iff.1 h0
        have hv := HO.out.2
        clear HO h0
        rcases hv with ⟨hv, _⟩ | ⟨g', cap', cur, hv, _⟩
        · subst hv
          go_wp2
          go_ret2
          exact ⟨by rw [HM2.out]; rfl, HF.out⟩
        · subst hv
          go_wp2
          go_ret2
          exact ⟨by rw [HM2.out]; rfl, HF.out⟩
      · obtain ⟨g', cap', hv, _⟩ := World.ownsRow.form HO.out (by omega)
        subst hv
        have hX : Hid (midX (mids zs) = ms.getD ((ms.length - 1) / 2) 0) := by show midX (mids zs) = _; rw [HM2.out]; unfold midX; rw [if_neg h0]
        have hE : Hid (midE (mids zs) = 0) := by show midE (mids zs) = 0; rw [HM2.out]; unfold midE; rw [if_neg h0]
        have hj : (((ms.length : Nat) : Int) - 1).tdiv 2 = (((ms.length - 1) / 2 : Nat) : Int) := by
          rw [Int.tdiv_eq_ediv_of_nonneg (by omega)]; omega
        have hjl : (ms.length - 1) / 2 < ms.length := by omega
        have hx : wr.cell? ⟨g', (ms.length - 1) / 2, none⟩ = some (.float .f64 (ms.getD ((ms.length - 1) / 2) 0)) := by
          rw [HO.out.cellAt _ (by omega), List.getElem?_map, List.getElem?_eq_getElem hjl, List.getD_eq_getElem?_getD, List.getElem?_eq_getElem hjl]; rfl
        have hle := HLE.out
        generalize (ms.length - 1) / 2 = j at *
        generalize ms.getD j 0 = x at *
        clear HM2 HO HLE HC
        generalize ms.length = m at *
        go_wp2
        go_ret2
        exact ⟨by rw [hX.out, hE.out]; rfl, HF.out⟩

set_option maxRecDepth 100000 in
set_option maxHeartbeats 4000000 in
theorem rmiddle_none (hS : SortSays0 31) (o : Option Addr) (cap : Nat) (w : World) :
    Calls Try.prog 29 #[.slice o 0 cap] w fun e w' => e = .returned (.tuple #[.float .f64 0, .int .i64 4]) ∧ Below w.heap.size w w' := by
  have h1 := hS o cap w
  go_enter Try.func29, Try.ntmps29
  go_wp2_with fail
  refine h1.mono ?_
  rintro e w1 ⟨p, c, rfl, hB0⟩
  have HB : Hid (Below w.heap.size w w1) := hB0
  clear hB0 h1
  go_wp2
  refine wp_loop_rounds 1 ?_
  rw [rounds_succ]
  go_wp2
  go_ret2
  exact ⟨rfl, HB.out⟩
end Go.Proofs.Ytnmadkallkoadaa
