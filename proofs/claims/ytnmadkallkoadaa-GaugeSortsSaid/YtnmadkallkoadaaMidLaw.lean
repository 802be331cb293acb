/-
  The walk of the law on the middle one, where Sort sorts.
-/
import Derived.Test.YtnmadkallkoadaaMiddle
import Derived.Test.YtnmadkallkoadaaAlive
namespace Go.Proofs.Ytnmadkallkoadaa
open Go.RowKit Go.GMath
attribute [local go_sem] run25 run40

theorem filter_zero {l : List Nat} {p : Nat → Bool} (h : ∀ x ∈ l, p x = false) : (l.filter p).length = 0 := by
  rw [List.filter_eq_nil_iff.2 (fun x hx => by rw [h x hx]; decide)]; rfl

theorem mid_mem {l : List Nat} (h : l.length ≠ 0) : midX l ∈ l := by
  unfold midX; rw [if_neg h]; exact mem_getD (by omega)

theorem mid_ahead {l : List Nat} (hs : l.Pairwise fun x y => place x ≤ place y) : 2 * (l.filter fun x => decide (ord x (midX l) < 0)).length ≤ l.length := by
  by_cases h : l.length = 0
  · rw [List.length_eq_zero_iff.1 h]; decide
  · have hm : midX l = l.getD ((l.length - 1) / 2) 0 := by unfold midX; rw [if_neg h]
    rw [hm]
    obtain ⟨j, hj⟩ : ∃ j, j = (l.length - 1) / 2 := ⟨_, rfl⟩
    rw [← hj]
    have hjl : j < l.length := by omega
    have e : l = l.take j ++ l.drop j := (List.take_append_drop j l).symm
    have hd : ((l.drop j).filter fun x => decide (ord x (l.getD j 0) < 0)).length = 0 := by
      refine filter_zero fun x hx => ?_
      obtain ⟨i, hi, rfl⟩ := List.getElem_of_mem hx
      have hgj : l.getD j 0 = l[j] := by rw [List.getD_eq_getElem?_getD, List.getElem?_eq_getElem hjl]; rfl
      rw [List.getElem_drop, hgj]
      have hil : j + i < l.length := by rw [List.length_drop] at hi; omega
      have : place l[j] ≤ place l[j + i] := by
        by_cases h0 : i = 0
        · subst h0; exact Nat.le_refl _
        · exact List.pairwise_iff_getElem.1 hs j (j + i) hjl hil (by omega)
      exact decide_eq_false fun hc => by have := ord_le_place.1 hc; omega
    have hk : (l.filter fun x => decide (ord x (l.getD j 0) < 0)).length ≤ j := by
      conv => lhs; rw [e]
      rw [List.filter_append, List.length_append, ← e, hd]
      have := List.length_filter_le (fun x => decide (ord x (l.getD j 0) < 0)) (l.take j)
      rw [List.length_take] at this
      omega
    omega

theorem mid_behind {l : List Nat} (hs : l.Pairwise fun x y => place x ≤ place y) : 2 * (l.filter fun x => decide (0 < ord x (midX l))).length ≤ l.length := by
  by_cases h : l.length = 0
  · rw [List.length_eq_zero_iff.1 h]; decide
  · have hm : midX l = l.getD ((l.length - 1) / 2) 0 := by unfold midX; rw [if_neg h]
    rw [hm]
    obtain ⟨j, hj⟩ : ∃ j, j = (l.length - 1) / 2 := ⟨_, rfl⟩
    rw [← hj]
    have hjl : j < l.length := by omega
    have e : l = l.take (j + 1) ++ l.drop (j + 1) := (List.take_append_drop _ l).symm
    have hd : ((l.take (j + 1)).filter fun x => decide (0 < ord x (l.getD j 0))).length = 0 := by
      refine filter_zero fun x hx => ?_
      obtain ⟨i, hi, rfl⟩ := List.getElem_of_mem hx
      have hgj : l.getD j 0 = l[j] := by rw [List.getD_eq_getElem?_getD, List.getElem?_eq_getElem hjl]; rfl
      rw [List.length_take] at hi
      rw [List.getElem_take, hgj]
      have : place l[i] ≤ place l[j] := by
        by_cases h0 : i = j
        · subst h0; exact Nat.le_refl _
        · exact List.pairwise_iff_getElem.1 hs i j (by omega) hjl (by omega)
      exact decide_eq_false fun hc => by have := ord_gt_place.1 hc; omega
    have hk : (l.filter fun x => decide (0 < ord x (l.getD j 0))).length ≤ l.length - (j + 1) := by
      conv => lhs; rw [e]
      rw [List.filter_append, List.length_append, ← e, hd]
      have := List.length_filter_le (fun x => decide (0 < ord x (l.getD j 0))) (l.drop (j + 1))
      rw [List.length_drop] at this
      omega
    omega

/-- what the law counts -/
def Ah (zs : List Nat) (m k : Nat) : Nat := ((Kt zs k).filter fun x => decide (ord x m < 0)).length
def Be (zs : List Nat) (m k : Nat) : Nat := ((Kt zs k).filter fun x => decide (0 < ord x m)).length
def In (zs : List Nat) (m k : Nat) : Bool := (Kt zs k).any fun x => decide (x = m)
theorem Ah_le (zs : List Nat) (m k : Nat) : Ah zs m k ≤ k := Nat.le_trans (List.length_filter_le _ _) (Kt_le _ _)
theorem Be_le (zs : List Nat) (m k : Nat) : Be zs m k ≤ k := Nat.le_trans (List.length_filter_le _ _) (Kt_le _ _)
theorem Ah_miss {zs : List Nat} {m k : Nat} (hk : k < zs.length) (hg : cntB (zs.getD k 0) = false) : Ah zs m (k + 1) = Ah zs m k := by unfold Ah; rw [Kt_miss hk hg]
theorem Be_miss {zs : List Nat} {m k : Nat} (hk : k < zs.length) (hg : cntB (zs.getD k 0) = false) : Be zs m (k + 1) = Be zs m k := by unfold Be; rw [Kt_miss hk hg]
theorem In_miss {zs : List Nat} {m k : Nat} (hk : k < zs.length) (hg : cntB (zs.getD k 0) = false) : In zs m (k + 1) = In zs m k := by unfold In; rw [Kt_miss hk hg]
theorem Ah_hit {zs : List Nat} {m k : Nat} (hk : k < zs.length) (hg : cntB (zs.getD k 0) = true) : Ah zs m (k + 1) = Ah zs m k + if ord (zs.getD k 0) m < 0 then 1 else 0 := by
  unfold Ah; rw [Kt_hit hk hg, List.filter_append, List.length_append, List.filter_cons]; split <;> simp_all
theorem Be_hit {zs : List Nat} {m k : Nat} (hk : k < zs.length) (hg : cntB (zs.getD k 0) = true) : Be zs m (k + 1) = Be zs m k + if 0 < ord (zs.getD k 0) m then 1 else 0 := by
  unfold Be; rw [Kt_hit hk hg, List.filter_append, List.length_append, List.filter_cons]; split <;> simp_all
theorem In_hit {zs : List Nat} {m k : Nat} (hk : k < zs.length) (hg : cntB (zs.getD k 0) = true) : In zs m (k + 1) = (In zs m k || decide (zs.getD k 0 = m)) := by
  unfold In; rw [Kt_hit hk hg, List.any_append]; simp
theorem ord_three (x m : Nat) : ord x m = -1 ∨ ord x m = 0 ∨ ord x m = 1 := by
  unfold ord; split
  · exact .inl rfl
  · split
    · exact .inr (.inr rfl)
    · exact .inr (.inl rfl)

/-- at the end -/
theorem end_facts {zs : List Nat} {n : Nat} (hl : zs.length = n) :
    (Kt zs n).length = (mids zs).length ∧ ((Kt zs n).length ≠ 0 → In zs (midX (mids zs)) n = true) ∧ 2 * Ah zs (midX (mids zs)) n ≤ (Kt zs n).length ∧ 2 * Be zs (midX (mids zs)) n ≤ (Kt zs n).length := by
  have hp : (Kt zs n).Perm (mids zs) := by rw [Kt_all hl]; exact (mids_perm zs).symm
  have hlen := hp.length_eq
  refine ⟨hlen, fun h0 => ?_, ?_, ?_⟩
  · unfold In
    rw [List.any_eq_true]
    exact ⟨_, hp.mem_iff.2 (mid_mem (by omega)), by simp⟩
  · unfold Ah
    rw [(hp.filter _).length_eq, hlen]
    exact mid_ahead (mids_sorted zs)
  · unfold Be
    rw [(hp.filter _).length_eq, hlen]
    exact mid_behind (mids_sorted zs)

theorem mid_U64 {zs : List Nat} (hz : ∀ x ∈ zs, U64 x) : U64 (midX (mids zs)) := by
  by_cases h : (mids zs).length = 0
  · unfold midX; rw [if_pos h]; exact u64 (by decide)
  · have := (mids_perm zs).mem_iff.1 (mid_mem h)
    exact hz _ (List.mem_filter.1 this).1

set_option maxRecDepth 100000 in
set_option maxHeartbeats 8000000 in
theorem mlaw_walk (hS : SortSays 27) (b off n cap : Nat) (zs : List Nat) (w : World) (hl : zs.length = n) (hpos : 0 < n) (hn : n ≤ 200) (hz : ∀ x ∈ zs, U64 x)
    (hc : ∀ k, k < n → w.cell? ⟨b, off + k, none⟩ = some (.float .f64 (zs.getD k 0))) :
    Calls Try.prog 10 #[.slice (some ⟨b, off, none⟩) n cap] w fun e w' => e = .returned (.bool true) ∧ Below w.heap.size w w' := by
  have h1 := middle_walk hS b off n cap zs w hl hpos hn hz hc
  have HA : Hid (∀ w, Calls Try.prog 11 #[] w fun e w' => e = .returned (.bool true) ∧ Fresh w w') := fun w => alive_any w
  have hlb0 := World.block_lt_of_cell? w _ (hc 0 hpos)
  simp only at hlb0
  have hlb : Hid (b < w.heap.size) := hlb0
  have HL : Hid (zs.length = n) := hl
  have HZ : Hid (∀ x ∈ zs, U64 x) := hz
  have HC : Hid (∀ k, k < n → w.cell? ⟨b, off + k, none⟩ = some (.float .f64 (zs.getD k 0))) := hc
  have HE : Hid _ := end_facts hl
  have HX0 : Hid ((mids zs).length = 0 → midX (mids zs) = 0) := fun h => by unfold midX; rw [if_pos h]
  have HME : Hid (midE (mids zs) = if (mids zs).length = 0 then 4 else 0) := rfl
  have hm : Hid (U64 (midX (mids zs))) := mid_U64 hz
  have q6 : decide ((200 : Int) < (n : Int)) = false := by simp; omega
  clear hl hz hc hlb0
  generalize midX (mids zs) = m at *
  generalize midE (mids zs) = me at *
  generalize (mids zs).length = ml at *
  go_enter Try.func10, Try.ntmps10
  go_wp2_with fail
  refine h1.mono ?_
  rintro e w1 ⟨rfl, hB0⟩
  have HB : Hid (Below w.heap.size w w1) := hB0
  clear hB0 h1
  go_wp2
  go_loopw [5, 6, 7, 8, 9] (fun c a h q i wr => ∃ k : Nat, k ≤ n ∧ i = .int .i64 k ∧ c = .int .i64 ((Kt zs k).length : Nat) ∧ a = .int .i64 (Ah zs m k : Nat) ∧ h = .int .i64 (Be zs m k : Nat) ∧ q = .bool (In zs m k) ∧ wr = w1) (fun _ _ _ _ i _ => n - (intOf i).toNat)
  case atStart => exact ⟨0, by omega, rfl, rfl, rfl, rfl, rfl, rfl⟩
  case round =>
    obtain ⟨k, hk, rfl, rfl, rfl, rfl, rfl, rfl⟩ := hrel
    have HKL : Hid ((Kt zs k).length ≤ k) := Kt_le zs k
    have HAL : Hid (Ah zs m k ≤ k) := Ah_le zs m k
    have HBL : Hid (Be zs m k ≤ k) := Be_le zs m k
    by_cases hlt : k < n
    · have hlk : Hid (k < zs.length) := by rw [HL.out]; exact hlt
      have hx : wr.cell? ⟨b, off + k, none⟩ = some (.float .f64 (zs.getD k 0)) := (HB.out.cell (by exact hlb.out)).trans (HC.out k hlt)
      have hu : U64 (zs.getD k 0) := HZ.out _ (mem_getD hlk.out)
      have hcnt := fun w => counts_any (zs.getD k 0) w hu
      have hsame := fun w => same_any (zs.getD k 0) m w hu hm.out
      have hord := fun w => order_any (zs.getD k 0) m w hu hm.out
      have HX : Hid (∃ x, x = zs.getD k 0) := ⟨_, rfl⟩
      obtain ⟨x, hxe⟩ := HX.out
      clear HX hu
      have HXE : Hid (x = zs.getD k 0) := hxe
      rw [← hxe] at hx hcnt hsame hord
      clear hxe
      cases hcx : cntB x
      · rw [hcx] at hcnt
        have e1 : Hid ((Kt zs (k + 1)) = Kt zs k) := Kt_miss hlk.out (by rw [← HXE.out]; exact hcx)
        have e2 : Hid (Ah zs m (k + 1) = Ah zs m k) := Ah_miss hlk.out (by rw [← HXE.out]; exact hcx)
        have e3 : Hid (Be zs m (k + 1) = Be zs m k) := Be_miss hlk.out (by rw [← HXE.out]; exact hcx)
        have e4 : Hid (In zs m (k + 1) = In zs m k) := In_miss hlk.out (by rw [← HXE.out]; exact hcx)
        clear hcx hsame hord HE
        generalize Ah zs m k = ah at *
        generalize Be zs m k = be at *
        generalize In zs m k = inn at *
        go_wp2_with (go_at_call 15; refine (hcnt _).mono ?_; rintro e w' ⟨rfl, rfl⟩)
        go_roundw
        case rel => exact ⟨k + 1, by omega, by go_num, by rw [e1.out], by rw [e2.out], by rw [e3.out], by rw [e4.out], trivial⟩
        case measure => simp [intOf]; omega
      · rw [hcx] at hcnt
        have e1 : Hid ((Kt zs (k + 1)).length = (Kt zs k).length + 1) := by show (Kt zs (k + 1)).length = _; rw [Kt_hit hlk.out (by rw [← HXE.out]; exact hcx)]; simp
        have e2 := Ah_hit (m := m) hlk.out (by rw [← HXE.out]; exact hcx)
        have e3 := Be_hit (m := m) hlk.out (by rw [← HXE.out]; exact hcx)
        have e4 : Hid (In zs m (k + 1) = (In zs m k || decide (x = m))) := by show In zs m (k + 1) = _; rw [In_hit hlk.out (by rw [← HXE.out]; exact hcx), HXE.out]
        rw [← HXE.out] at e2 e3
        clear hcx HE
        generalize Ah zs m k = ah at *
        generalize Be zs m k = be at *
        generalize In zs m k = inn at *
        generalize decide (x = m) = eqb at *
        rcases ord_three x m with ho | ho | ho
        all_goals
          rw [ho] at hord e2 e3
          simp only [reduceIte, Int.reduceLT, Int.reduceNeg] at e2 e3
          have e2' : Hid _ := e2
          have e3' : Hid _ := e3
          clear e2 e3 ho
          cases inn
          all_goals
            generalize (Kt zs k).length = kl at *
            have := HKL.out
            have := HAL.out
            have := HBL.out
            go_wp2_with (first
              | (go_at_call 15; refine (hcnt _).mono ?_; rintro e w' ⟨rfl, rfl⟩)
              | (go_at_call 14; refine (hsame _).mono ?_; rintro e w' ⟨rfl, rfl⟩)
              | (go_at_call 12; refine (hord _).mono ?_; rintro e w' ⟨rfl, rfl⟩))
            go_roundw
            case rel => exact ⟨k + 1, by omega, by go_num, by rw [e1.out]; go_num, by rw [e2'.out]; go_num, by rw [e3'.out]; go_num, by rw [e4.out]; rfl, trivial⟩
            case measure => simp [intOf]; omega
    · have hkn : k = n := by omega
      subst hkn
      have hE := HE.out
      generalize Ah zs m k = ah at *
      generalize Be zs m k = be at *
      generalize (Kt zs k).length = kl at *
      obtain ⟨h1, h2, h3, h4⟩ := hE
      have hal := HA.out
      by_cases h0 : kl = 0
      · have hml : ml = 0 := by omega
        have hm0 := HX0.out hml
        have hme : me = 4 := by rw [HME.out, if_pos hml]
        subst h0 hm0 hme
        have hf0 : (FloatKind.f64.format.order 0 0 == some .eq) = true := by decide +kernel
        generalize In zs 0 k = inn at *
        clear h1 h2 h3 h4 HE HX0 HME HKL HAL HBL
        go_wp2_with fail
        refine (hal _).mono ?_; rintro e w2 ⟨rfl, hf⟩
        have HF : Hid (Fresh _ w2) := hf
        clear hf
        go_wp2
        go_ret
        exact ⟨rfl, HB.out.trans (HF.out.2.mono HB.out.size)⟩
      · have hml : ml ≠ 0 := by omega
        have hme : me = 0 := by rw [HME.out, if_neg hml]
        have hin := h2 h0
        subst hme
        rw [hin]
        have q1 : ((kl : Int) == 0) = false := by simp; omega
        have q2 : decide (2 * (ah : Int) ≤ (kl : Int)) = true := by simp; omega
        have q3 : decide (2 * (be : Int) ≤ (kl : Int)) = true := by simp; omega
        have b1 := HKL.out
        have b2 := HAL.out
        have b3 := HBL.out
        clear h1 h2 HE HX0 HME hin
        go_wp2_with fail
        refine (hal _).mono ?_; rintro e w2 ⟨rfl, hf⟩
        have HF : Hid (Fresh _ w2) := hf
        clear hf
        go_wp2
        go_ret
        exact ⟨rfl, HB.out.trans (HF.out.2.mono HB.out.size)⟩

set_option maxRecDepth 100000 in
set_option maxHeartbeats 1000000 in
theorem mlaw_none (hS : SortSays0 27) (o : Option Addr) (cap : Nat) (w : World) : Calls Try.prog 10 #[.slice o 0 cap] w fun e w' => e = .returned (.bool true) ∧ Below w.heap.size w w' := by
  have h1 := middle_none hS o cap w
  have e1 := fun w => alive_any w
  have hf0 : (FloatKind.f64.format.order 0 0 == some .eq) = true := by decide +kernel
  go_enter Try.func10, Try.ntmps10
  go_wp2_with fail
  refine h1.mono ?_
  rintro e w1 ⟨rfl, hB0⟩
  have HB : Hid (Below w.heap.size w w1) := hB0
  clear hB0 h1
  go_wp2
  refine wp_loop_rounds 1 ?_
  rw [rounds_succ]
  go_wp2_with fail
  refine (e1 _).mono ?_; rintro e w' ⟨rfl, hf⟩
  have HF : Hid (Fresh _ w') := hf
  clear hf e1
  go_wp2
  go_ret
  exact ⟨rfl, HB.out.trans (HF.out.2.mono HB.out.size)⟩
set_option maxRecDepth 100000 in
set_option maxHeartbeats 1000000 in
theorem mlaw_many (o : Option Addr) (len cap : Nat) (w : World) (h : 200 < len) : Calls Try.prog 10 #[.slice o len cap] w fun e w' => e = .returned (.bool true) ∧ Below w.heap.size w w' := by
  have e1 := fun w => alive_any w
  go_enter Try.func10, Try.ntmps10
  go_wp2_with fail
  refine (e1 _).mono ?_; rintro e w' ⟨rfl, hf⟩
  have HF : Hid (Fresh _ w') := hf
  clear hf e1
  go_wp2
  go_ret
  exact ⟨rfl, HF.out.2⟩
end Go.Proofs.Ytnmadkallkoadaa
