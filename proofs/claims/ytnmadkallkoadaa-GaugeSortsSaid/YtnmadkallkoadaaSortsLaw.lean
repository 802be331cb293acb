/-
  The walk of the law on sorted measures.
-/
import Derived.Test.YtnmadkallkoadaaMidLaw
import Derived.Test.YtnmadkallkoadaaRMiddle
import Derived.Test.YtnmadkallkoadaaSort
import Derived.Test.YtnmadkallkoadaaRSort
import Derived.Test.YtnmadkallkoadaaRSame
import Derived.Laws.AppendOwnNone
namespace Go.Proofs.Ytnmadkallkoadaa
open Go.RowKit Go.GMath
attribute [local go_sem] run25 run40

theorem rsame_refl (a : Nat) (w : World) (ha : U64 a) : Calls Try.prog 17 #[.float .f64 a, .float .f64 a] w fun e w' => e = .returned (.bool true) ∧ w = w' := by
  have h := rsame_any a a w ha ha
  rw [decide_eq_true rfl] at h
  exact h

def MidSays (fn b off n cap : Nat) (zs : List Nat) (mx : Nat) (me : Int) : Prop := ∀ w : World, (∀ k, k < n → w.cell? ⟨b, off + k, none⟩ = some (.float .f64 (zs.getD k 0))) →
  Calls Try.prog fn #[.slice (some ⟨b, off, none⟩) n cap] w fun e w' => e = .returned (.tuple #[.float .f64 mx, .int .i64 me]) ∧ Below w.heap.size w w'

set_option maxRecDepth 100000 in
set_option maxHeartbeats 8000000 in
theorem slaw_walk (b off n cap : Nat) (zs : List Nat) (w : World) (hl : zs.length = n) (hpos : 0 < n) (hn : n ≤ 200) (hz : ∀ x ∈ zs, U64 x)
    (hc : ∀ k, k < n → w.cell? ⟨b, off + k, none⟩ = some (.float .f64 (zs.getD k 0))) :
    Calls Try.prog 9 #[.slice (some ⟨b, off, none⟩) n cap] w fun e w' => e = .returned (.bool true) ∧ Below w.heap.size w w' := by
  obtain ⟨i0, hi, hz0, hz1, hz2⟩ : ∃ i0, Try.prog.info? 22 = some i0 ∧ i0.zero = some (.float .f64 0) ∧ i0.size = 1 ∧ i0.bytes = 8 := by
    have h := info22
    cases hq : Try.prog.info? 22 with
    | none => rw [hq] at h; cases h
    | some i0 => rw [hq] at h; simp at h; exact ⟨i0, rfl, h.1, h.2.1, h.2.2⟩
  have hlb0 := World.block_lt_of_cell? w _ (hc 0 hpos)
  simp only at hlb0
  have hlb : Hid (b < w.heap.size) := hlb0
  have HL : Hid (zs.length = n) := hl
  have HZ : Hid (∀ x ∈ zs, U64 x) := hz
  have HC : Hid (∀ k, k < n → w.cell? ⟨b, off + k, none⟩ = some (.float .f64 (zs.getD k 0))) := hc
  have HNEWS : Hid (∀ j u, (zs.map (Value.float .f64))[j]? = some u → w.cell? ⟨b, off + j, none⟩ = some u) := by
    intro j u hj
    rw [List.getElem?_map] at hj
    by_cases hjl : j < zs.length
    · rw [List.getElem?_eq_getElem hjl] at hj
      cases hj
      rw [hc j (by omega), List.getD_eq_getElem?_getD, List.getElem?_eq_getElem hjl]; rfl
    · rw [List.getElem?_eq_none (by omega)] at hj; cases hj
  have q6 : decide ((200 : Int) < (n : Int)) = false := by simp; omega
  have HMX : Hid (U64 (midX (mids zs))) := mid_U64 hz
  have HMID : Hid (MidSays 28 b off n cap zs (midX (mids zs)) (midE (mids zs))) := fun w => middle_walk gsort_says b off n cap zs w hl hpos hn hz
  have HRMID : Hid (MidSays 29 b off n cap zs (midX (mids zs)) (midE (mids zs))) := fun w => rmiddle_walk rsort_says b off n cap zs w hl hpos hn hz
  clear hl hz hc hlb0
  generalize midX (mids zs) = mx at *
  generalize midE (mids zs) = me at *
  go_enter Try.func9, Try.ntmps9
  go_wp2_with (first
    | (at_builtin; refine wpList_append_own _ rfl _ _ 34 rfl w.heap.size 22 i0 (.float .f64 0) 1 8 Try.underlying34 hi hz0 hz1 hz2 rfl (by decide) _ _ _ rfl (World.ownsRow_made w #[] 0 (Nat.le_refl _) (Nat.zero_le _) (by simp)) ⟨b, off, none⟩ n cap (zs.map (Value.float .f64)) rfl ?c0 ?c1 ?c2 ?c3 ?c4 ?c5 ?_)
    | fail)
  case c0 => rw [List.length_map, HL.out]; omega
  case c1 =>
    intro j u hj
    rw [Addr.add_lit]
    exact Lib.cell?_alloc_some _ (HNEWS.out j u hj)
  case c2 => intro u hu; obtain ⟨x, _, rfl⟩ := List.mem_map.1 hu; rfl
  case c3 => unfold maxLen; omega
  case c4 => omega
  case c5 => simp
  intro v' w2 hown hgrow _
  have hB2 : Below w.heap.size w w2 := ((Below.refl _ w).alloc (Nat.le_refl _) _).grown hgrow (by simp) (by intro k hk; simp [Value.ownBlock] at hk; omega)
  obtain ⟨g0, c0, rfl, hg1, hg2⟩ := World.ownsRow.form hown (by omega)
  have HG0 : Hid (w.heap.size ≤ g0 ∧ g0 < w2.heap.size) := ⟨hg1, hg2⟩
  have HC0 : Hid (∀ k, k < n → w2.cell? ⟨g0, 0 + k, none⟩ = some (.float .f64 (zs.getD k 0))) := by
    intro k hk
    have hkl : k < zs.length := by rw [HL.out]; exact hk
    rw [Nat.zero_add, hown.cellAt k (by omega), List.getElem?_map, List.getElem?_eq_getElem hkl, List.getD_eq_getElem?_getD, List.getElem?_eq_getElem hkl]; rfl
  have HB2 : Hid (Below w.heap.size w w2) := hB2
  have HC2 : Hid (∀ k, k < n → w2.cell? ⟨b, off + k, none⟩ = some (.float .f64 (zs.getD k 0))) := fun k hk => (hB2.cell (by exact hlb.out)).trans (HC.out k hk)
  have HB : Hid (b < w2.heap.size) := Nat.lt_of_lt_of_le hlb.out hB2.size
  clear hown hgrow hg1 hg2 hB2 HC HNEWS
  go_wp2_with fail
  refine (gsort_says b off n cap zs w2 HL.out hpos hn HZ.out HC2.out).mono ?_
  rintro e w3 ⟨ga, ca, rfl, ha1, ha2, ha3, hB3⟩
  have HA : Hid (w2.heap.size ≤ ga ∧ ga < w3.heap.size) := ⟨ha1, ha2⟩
  have HCA : Hid (∀ k, k < n → w3.cell? ⟨ga, 0 + k, none⟩ = some (.float .f64 ((srt zs).getD k 0))) := fun k hk => by rw [Nat.zero_add]; exact ha3 k hk
  have HB3 : Hid (Below w2.heap.size w2 w3) := hB3
  have HC3 : Hid (∀ k, k < n → w3.cell? ⟨b, off + k, none⟩ = some (.float .f64 (zs.getD k 0))) := fun k hk => (hB3.cell (by exact HB.out)).trans (HC2.out k hk)
  clear ha1 ha2 ha3 hB3
  go_wp2_with fail
  refine (HMID.out w3 HC3.out).mono ?_
  rintro e w4 ⟨rfl, hB4⟩
  have HB4 : Hid (Below w3.heap.size w3 w4) := hB4
  have hB34 : Below w2.heap.size w2 w4 := HB3.out.trans (hB4.mono HB3.out.size)
  have HB34 : Hid (Below w2.heap.size w2 w4) := hB34
  have HC4 : Hid (∀ k, k < n → w4.cell? ⟨b, off + k, none⟩ = some (.float .f64 (zs.getD k 0))) := fun k hk => (hB34.cell (by exact HB.out)).trans (HC2.out k hk)
  clear hB4 hB34
  go_wp2_with fail
  refine (HRMID.out w4 HC4.out).mono ?_
  rintro e w5 ⟨rfl, hB5⟩
  have HB5 : Hid (Below w3.heap.size w3 w5) := HB4.out.trans (hB5.mono HB4.out.size)
  clear hB5 HC3 HC4 HMID HRMID HB34 HB4
  go_wp2_with fail
  refine (alive_any w5).mono ?_
  rintro e w6 ⟨rfl, hf⟩
  have hB6 : Below w3.heap.size w3 w6 := HB5.out.trans (hf.2.mono HB5.out.size)
  have HB6 : Hid (Below w3.heap.size w3 w6) := hB6
  have hB26 : Below w2.heap.size w2 w6 := HB3.out.trans (hB6.mono HB3.out.size)
  have HB26 : Hid (Below w2.heap.size w2 w6) := hB26
  have HC6 : Hid (∀ k, k < n → w6.cell? ⟨b, off + k, none⟩ = some (.float .f64 (zs.getD k 0))) := fun k hk => (hB26.cell (by exact HB.out)).trans (HC2.out k hk)
  clear hf hB6 hB26 HB5
  go_wp2_with fail
  refine (rsort_says b off n cap zs w6 HL.out hpos hn HZ.out HC6.out).mono ?_
  rintro e w7 ⟨gr, cr, rfl, hr1, hr2, hr3, hB7⟩
  have HB7 : Hid (Below w6.heap.size w6 w7) := hB7
  have HCR : Hid (∀ k, k < n → w7.cell? ⟨gr, 0 + k, none⟩ = some (.float .f64 ((srt zs).getD k 0))) := fun k hk => by rw [Nat.zero_add]; exact hr3 k hk
  have HB37 : Hid (Below w3.heap.size w3 w7) := HB6.out.trans (hB7.mono HB6.out.size)
  have HCA7 : Hid (∀ k, k < n → w7.cell? ⟨ga, 0 + k, none⟩ = some (.float .f64 ((srt zs).getD k 0))) := fun k hk => (HB37.out.cell (by exact HA.out.2)).trans (HCA.out k hk)
  clear hr1 hr2 hr3 hB7
  go_wp2_with fail
  refine (rsame_walk ga 0 gr 0 n ca cr (srt zs) w7 ((srt_length zs).trans HL.out) hn (fun x hx => HZ.out x (srt_mem.1 hx)) HCA7.out HCR.out).mono ?_
  rintro e w8 ⟨rfl, hB8⟩
  have HB38 : Hid (Below w3.heap.size w3 w8) := HB37.out.trans (hB8.mono HB37.out.size)
  have HB28 : Hid (Below w2.heap.size w2 w8) := HB3.out.trans (HB38.out.mono HB3.out.size)
  clear hB8
  go_wp2_with fail
  refine (rsame_refl mx w8 HMX.out).mono ?_
  rintro e w9 ⟨rfl, rfl⟩
  go_wp2_with fail
  refine (rsame_walk b off g0 0 n cap c0 zs w8 HL.out hn HZ.out (fun k hk => (HB28.out.cell (by exact HB.out)).trans (HC2.out k hk)) (fun k hk => (HB28.out.cell (by exact HG0.out.2)).trans (HC0.out k hk))).mono ?_
  rintro e w10 ⟨rfl, hB10⟩
  have HB10 : Hid (Below w2.heap.size w2 w10) := HB28.out.trans (hB10.mono HB28.out.size)
  clear hB10
  go_wp2
  go_ret
  exact ⟨rfl, HB2.out.trans (HB10.out.mono HB2.out.size)⟩

set_option maxRecDepth 100000 in
set_option maxHeartbeats 8000000 in
theorem slaw_empty (a : Addr) (cap : Nat) (w : World) : Calls Try.prog 9 #[.slice (some a) 0 cap] w fun e w' => e = .returned (.bool true) ∧ Below w.heap.size w w' := by
  obtain ⟨i0, hi, hz0, hz1, hz2⟩ : ∃ i0, Try.prog.info? 22 = some i0 ∧ i0.zero = some (.float .f64 0) ∧ i0.size = 1 ∧ i0.bytes = 8 := by
    have h := info22
    cases hq : Try.prog.info? 22 with
    | none => rw [hq] at h; cases h
    | some i0 => rw [hq] at h; simp at h; exact ⟨i0, rfl, h.1, h.2.1, h.2.2⟩
  go_enter Try.func9, Try.ntmps9
  go_wp2_with (first
    | (at_builtin; refine wpList_append_own _ rfl _ _ 34 rfl w.heap.size 22 i0 (.float .f64 0) 1 8 Try.underlying34 hi hz0 hz1 hz2 rfl (by decide) _ _ _ rfl (World.ownsRow_made w #[] 0 (Nat.le_refl _) (Nat.zero_le _) (by simp)) a 0 cap [] rfl rfl ?c1 ?c2 ?c3 ?c4 ?c5 ?_)
    | fail)
  case c1 => intro j u hj; cases hj
  case c2 => intro u hu; cases hu
  case c3 => unfold maxLen; omega
  case c4 => omega
  case c5 => simp
  intro v' w2 hown hgrow _
  have hB2 : Below w.heap.size w w2 := ((Below.refl _ w).alloc (Nat.le_refl _) _).grown hgrow (by simp) (by intro k hk; simp [Value.ownBlock] at hk; omega)
  have hv : ∃ p c, v' = .slice p 0 c := by
    rcases hown.2 with ⟨hv, _⟩ | ⟨g, c, cur, hv, _⟩
    · exact ⟨_, _, hv⟩
    · exact ⟨_, _, hv⟩
  obtain ⟨p0, c0, rfl⟩ := hv
  clear hown hgrow
  have HB2 : Hid (Below w.heap.size w w2) := hB2
  clear hB2
  go_wp2_with fail
  refine (gsort_says0 _ _ w2).mono ?_
  rintro e w3 ⟨pa, ca, rfl, hB3⟩
  have HB3 : Hid (Below w.heap.size w w3) := HB2.out.trans (hB3.mono HB2.out.size)
  clear hB3
  go_wp2_with fail
  refine (middle_none gsort_says0 _ _ w3).mono ?_
  rintro e w4 ⟨rfl, hB4⟩
  have HB4 : Hid (Below w.heap.size w w4) := HB3.out.trans (hB4.mono HB3.out.size)
  clear hB4
  go_wp2_with fail
  refine (rmiddle_none rsort_says0 _ _ w4).mono ?_
  rintro e w5 ⟨rfl, hB5⟩
  have HB5 : Hid (Below w.heap.size w w5) := HB4.out.trans (hB5.mono HB4.out.size)
  clear hB5
  go_wp2_with fail
  refine (alive_any w5).mono ?_
  rintro e w6 ⟨rfl, hf⟩
  have HB6 : Hid (Below w.heap.size w w6) := HB5.out.trans (hf.2.mono HB5.out.size)
  clear hf
  go_wp2_with fail
  refine (rsort_says0 _ _ w6).mono ?_
  rintro e w7 ⟨pr, cr, rfl, hB7⟩
  have HB7 : Hid (Below w.heap.size w w7) := HB6.out.trans (hB7.mono HB6.out.size)
  clear hB7
  go_wp2_with fail
  refine (rsame_none _ _ _ _ w7).mono ?_
  rintro e w8 ⟨rfl, hB8⟩
  have HB8 : Hid (Below w.heap.size w w8) := HB7.out.trans (hB8.mono HB7.out.size)
  clear hB8
  go_wp2_with fail
  refine (rsame_refl 0 w8 (u64 (by decide))).mono ?_
  rintro e w9 ⟨rfl, rfl⟩
  go_wp2_with fail
  refine (rsame_none _ _ _ _ w8).mono ?_
  rintro e w10 ⟨rfl, hB10⟩
  have HB10 : Hid (Below w.heap.size w w10) := HB8.out.trans (hB10.mono HB8.out.size)
  clear hB10
  go_wp2
  go_ret
  exact ⟨rfl, HB10.out⟩
set_option maxRecDepth 100000 in
set_option maxHeartbeats 8000000 in
theorem slaw_none (w : World) : Calls Try.prog 9 #[.slice none 0 0] w fun e w' => e = .returned (.bool true) ∧ Below w.heap.size w w' := by
  obtain ⟨i0, hi, hz0, hz1, hz2⟩ : ∃ i0, Try.prog.info? 22 = some i0 ∧ i0.zero = some (.float .f64 0) ∧ i0.size = 1 ∧ i0.bytes = 8 := by
    have h := info22
    cases hq : Try.prog.info? 22 with
    | none => rw [hq] at h; cases h
    | some i0 => rw [hq] at h; simp at h; exact ⟨i0, rfl, h.1, h.2.1, h.2.2⟩
  have hB2 : Below w.heap.size w (w.alloc (.cells #[] 22)) := (Below.refl _ w).alloc (Nat.le_refl _) _
  obtain ⟨w2, hw2⟩ : ∃ w2, w2 = w.alloc (.cells #[] 22) := ⟨_, rfl⟩
  go_enter Try.func9, Try.ntmps9
  go_wp2_with (first
    | (at_builtin; refine wpList_append_own_none rfl _ _ 34 rfl w.heap.size 22 i0 1 Try.underlying34 hi _ _ _ rfl (World.ownsRow_made w #[] 0 (Nat.le_refl _) (Nat.zero_le _) (by simp)) rfl ?_)
    | fail)
  rw [← hw2] at hB2 ⊢
  clear hw2
  have HB2 : Hid (Below w.heap.size w w2) := hB2
  clear hB2
  go_wp2_with fail
  refine (gsort_says0 _ _ w2).mono ?_
  rintro e w3 ⟨pa, ca, rfl, hB3⟩
  have HB3 : Hid (Below w.heap.size w w3) := HB2.out.trans (hB3.mono HB2.out.size)
  clear hB3
  go_wp2_with fail
  refine (middle_none gsort_says0 _ _ w3).mono ?_
  rintro e w4 ⟨rfl, hB4⟩
  have HB4 : Hid (Below w.heap.size w w4) := HB3.out.trans (hB4.mono HB3.out.size)
  clear hB4
  go_wp2_with fail
  refine (rmiddle_none rsort_says0 _ _ w4).mono ?_
  rintro e w5 ⟨rfl, hB5⟩
  have HB5 : Hid (Below w.heap.size w w5) := HB4.out.trans (hB5.mono HB4.out.size)
  clear hB5
  go_wp2_with fail
  refine (alive_any w5).mono ?_
  rintro e w6 ⟨rfl, hf⟩
  have HB6 : Hid (Below w.heap.size w w6) := HB5.out.trans (hf.2.mono HB5.out.size)
  clear hf
  go_wp2_with fail
  refine (rsort_says0 _ _ w6).mono ?_
  rintro e w7 ⟨pr, cr, rfl, hB7⟩
  have HB7 : Hid (Below w.heap.size w w7) := HB6.out.trans (hB7.mono HB6.out.size)
  clear hB7
  go_wp2_with fail
  refine (rsame_none _ _ _ _ w7).mono ?_
  rintro e w8 ⟨rfl, hB8⟩
  have HB8 : Hid (Below w.heap.size w w8) := HB7.out.trans (hB8.mono HB7.out.size)
  clear hB8
  go_wp2_with fail
  refine (rsame_refl 0 w8 (u64 (by decide))).mono ?_
  rintro e w9 ⟨rfl, rfl⟩
  go_wp2_with fail
  refine (rsame_none _ _ _ _ w8).mono ?_
  rintro e w10 ⟨rfl, hB10⟩
  have HB10 : Hid (Below w.heap.size w w10) := HB8.out.trans (hB10.mono HB8.out.size)
  clear hB10
  go_wp2
  go_ret
  exact ⟨rfl, HB10.out⟩
set_option maxRecDepth 100000 in
set_option maxHeartbeats 1000000 in
theorem slaw_many (o : Option Addr) (len cap : Nat) (w : World) (h : 200 < len) : Calls Try.prog 9 #[.slice o len cap] w fun e w' => e = .returned (.bool true) ∧ Below w.heap.size w w' := by
  have e1 := fun w => alive_any w
  go_enter Try.func9, Try.ntmps9
  go_wp2_with fail
  refine (e1 _).mono ?_; rintro e w' ⟨rfl, hf⟩
  have HF : Hid (Fresh _ w') := hf
  clear hf e1
  go_wp2
  go_ret
  exact ⟨rfl, HF.out.2⟩
end Go.Proofs.Ytnmadkallkoadaa
