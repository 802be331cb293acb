/-
  The contract of Sort, of package gauge: over slices.Clone and slices.SortFunc.
-/
import Derived.Test.YtnmadkallkoadaaSortD
import Derived.Test.YtnmadkallkoadaaChecked
import Derived.Shelf.SlSortCmp.NoneTotal
import Derived.Shelf.SlicesE.Clone
import Derived.Shelf.SlGeneric
import Derived.Ground.SlsfProg
import Derived.Ground.SlgnProg
import Derived.Lib.SortBridge
namespace Go.Proofs
open Go.Shelf
shelf_lay_g SlLaysF.n6 Slsf 6 at Try 42 as Try.sortL
shelf_lay_g SlLaysE0.n41 Slgn 41 at Try 41 as Try.cloneL
end Go.Proofs
namespace Go.Proofs.Ytnmadkallkoadaa
open Go.RowKit Go.GMath Go.Shelf Go.Lib Go.Sort

abbrev F64 := {x : Nat // U64 x}
instance : Inhabited F64 := ⟨⟨0, u64 (by decide)⟩⟩
def encF (x : F64) : Value := .float .f64 x.val
def cfF (x y : F64) : Int := ord x.val y.val
theorem ltF (x y : F64) : ltOf cfF x y = decide (place x.val < place y.val) := by
  unfold ltOf cfF
  by_cases h : place x.val < place y.val
  · rw [decide_eq_true h, decide_eq_true (ord_le_place.2 h)]
  · rw [decide_eq_false h, decide_eq_false (fun k => h (ord_le_place.1 k))]
theorem swoF : SWO (ltOf cfF) where
  irrefl x := by rw [ltF]; simp
  trans x y z h1 h2 := by rw [ltF] at *; simp at *; omega
  ntrans x y z h1 h2 := by rw [ltF] at *; simp at *; omega
theorem totF (x y : F64) (h1 : ltOf cfF x y = false) (h2 : ltOf cfF y x = false) : x = y := by
  rw [ltF] at *; simp at *
  exact Subtype.ext (place_inj x.2 y.2 (by omega))

set_option maxHeartbeats 1000000 in
theorem closure43 (x y : F64) (W : World) : Calls Try.prog 43 #[encF x, encF y] W fun e w' => e = .returned (.int .i64 (cfF x y)) ∧ ∃ q, w' = W.drewN q := by
  have h := fun w => order_any x.val y.val w x.2 y.2
  unfold cfF encF
  go_enter Try.func43, Try.ntmps43
  go_wp2_with (go_at_call 12; refine (h _).mono ?_; rintro e w' ⟨rfl, rfl⟩)
  go_ret
  exact ⟨rfl, 0, rfl⟩
theorem cmpReads43 (blk off size : Nat) (w : World) : CmpReads Try.prog 43 #[] encF cfF blk off size w := fun _ _ _ _ x y => closure43 x y _

theorem srt_map (l : List F64) : (l.mergeSort fun x y => !(ltOf cfF) y x).map Subtype.val = srt (l.map Subtype.val) := by
  unfold srt
  refine List.map_mergeSort fun a _ b _ => ?_
  rw [ltF]; rfl

theorem sort_facts {w1 w2 : World} {g q : Nat} {d0 d' : Array F64} {os : Array Obj} (hH : Holds encF w1 g 0 d0) (hs : d'.size = d0.size) (hg : g < w1.heap.size) (hw : w2 = sortWorld encF w1 g 0 q d' os) :
    (∀ j, j < d'.size → w2.cell? ⟨g, j, none⟩ = some (encF d'[j]!)) ∧ Below g w1 w2 ∧ g < w2.heap.size := by
  have hsz : (putRow encF (Sort.ahead w1 q) g 0 d').heap.size = w1.heap.size := by simp [putRow, mapBlock, Sort.ahead]
  subst hw
  refine ⟨fun j hj => ?_, ⟨rfl, rfl, rfl, ?_, fun k hk => ?_⟩, ?_⟩
  · unfold sortWorld
    rw [cell?_grow _ _ _ (by rw [hsz]; exact hg)]
    have := cell?_putRow encF (Sort.ahead w1 q) g 0 d0 d' (holds_ahead _ _ _ _ _ _ hH) hs j hj
    rw [Nat.zero_add] at this
    exact this
  · unfold sortWorld; rw [size_grow, hsz]; omega
  · unfold sortWorld
    rw [heap_grow_old _ _ (by rw [hsz]; omega)]
    simp only [putRow, mapBlock, Sort.ahead, Array.getElem?_modify]
    rw [if_neg (by omega)]
  · unfold sortWorld; rw [size_grow, hsz]; omega

set_option maxHeartbeats 1000000 in
theorem clone_empty (a : Addr) (cap : Nat) (w : World) : Calls Try.prog 41 #[.slice (some a) 0 cap] w fun e w' => ∃ p c, e = .returned (.slice p 0 c) ∧ Below w.heap.size w w' := by
  obtain ⟨i0, hi, hz0, hz1, hz2⟩ : ∃ i0, Try.prog.info? 22 = some i0 ∧ i0.zero = some (.float .f64 0) ∧ i0.size = 1 ∧ i0.bytes = 8 := by
    have h := info22
    cases hq : Try.prog.info? 22 with
    | none => rw [hq] at h; cases h
    | some i0 => rw [hq] at h; simp at h; exact ⟨i0, rfl, h.1, h.2.1, h.2.2⟩
  have q22 : ∀ (w : World), (binOp .eql 34 (.slice (some a) 0 cap) (.slice none 0 0)).run Try.prog w = .ok (.bool false) w := fun w => Lib.run_eql_slice_nil w _ _ (some a) 0 cap 0 0 Try.underlying34
  go_enter Try.func41, Try.ntmps41
  go_wp2_with (at_builtin; refine wpList_append_own _ rfl _ _ 34 rfl w.heap.size 22 i0 (.float .f64 0) 1 8 Try.underlying34 hi hz0 hz1 hz2 rfl (by decide) _ _ _ rfl (World.ownsRow_made w #[] 0 (Nat.le_refl _) (Nat.zero_le _) (by simp)) a 0 cap [] rfl rfl ?qc2 ?qc3 ?qc4 ?qc5 ?qc6 ?_)
  case qc2 => intro j u hj; cases hj
  case qc3 => intro u hu; cases hu
  case qc4 => unfold maxLen; omega
  case qc5 => omega
  case qc6 => simp
  intro v' w1 hown hgrow hnil
  have hv : ∃ p c, v' = .slice p 0 c := by
    rcases hown.2 with ⟨hv, _⟩ | ⟨g, c, cur, hv, _⟩
    · exact ⟨_, _, hv⟩
    · exact ⟨_, _, hv⟩
  obtain ⟨p, c, rfl⟩ := hv
  go_wp2
  go_ret
  exact ⟨p, c, rfl, ((Below.refl _ w).alloc (Nat.le_refl _) _).grown hgrow (by simp) (by intro k hk; simp [Value.ownBlock] at hk; omega)⟩

set_option maxHeartbeats 1000000 in
theorem gsort_says0 : SortSays0 27 := by
  intro o cap w
  obtain ⟨i0, hi, hz0, hz1, hz2⟩ : ∃ i0, Try.prog.info? 22 = some i0 ∧ i0.zero = some (.float .f64 0) ∧ i0.size = 1 ∧ i0.bytes = 8 := by
    have h := info22
    cases hq : Try.prog.info? 22 with
    | none => rw [hq] at h; cases h
    | some i0 => rw [hq] at h; simp at h; exact ⟨i0, rfl, h.1, h.2.1, h.2.2⟩
  have hS := fun p c W => AnyF.slices_SortFunc_none (P := Try.prog) (ρ := Try.sortL_ren) { Try.sortL with } p c (.func (.func 43) #[] #[]) W
  change ∀ p c W, Calls Try.prog 42 _ _ _ at hS
  have hcl : Calls Try.prog 41 #[.slice o 0 cap] w fun e w' => ∃ p c, e = .returned (.slice p 0 c) ∧ Below w.heap.size w w' := by
    cases o with
    | none =>
      have h := AnyE.slices_Clone_nil Try.cloneL 0 cap w
      change Calls Try.prog 41 _ _ _ at h
      exact h.mono fun e w' ⟨he, hw⟩ => ⟨none, 0, he, by rw [hw]; exact Below.refl _ _⟩
    | some a => exact clone_empty a cap w
  go_enter Try.func27, Try.ntmps27
  go_wp2_with fail
  refine hcl.mono ?_
  rintro e w1 ⟨p, c, rfl, hB0⟩
  have HB : Hid (Below w.heap.size w w1) := hB0
  clear hB0 hcl
  go_wp2_with fail
  refine (hS _ _ _).mono ?_
  rintro e w2 ⟨rfl, rfl⟩
  go_wp2
  go_ret
  exact ⟨p, c, rfl, HB.out⟩

set_option maxHeartbeats 2000000 in
theorem gsort_says : SortSays 27 := by
  intro b off n cap zs w hl hpos hn hz hc
  obtain ⟨i0, hi, hz0, hz1, hz2⟩ : ∃ i0, Try.prog.info? 22 = some i0 ∧ i0.zero = some (.float .f64 0) ∧ i0.size = 1 ∧ i0.bytes = 8 := by
    have h := info22
    cases hq : Try.prog.info? 22 with
    | none => rw [hq] at h; cases h
    | some i0 => rw [hq] at h; simp at h; exact ⟨i0, rfl, h.1, h.2.1, h.2.2⟩
  have hcl := AnyE.slices_Clone Try.cloneL i0 (.float .f64 0) 1 8 hi hz0 hz1 hz2 rfl (by decide) (fun _ => by kernel_rfl) b off n cap (zs.map (Value.float .f64)) w (by simp [hl]) (by unfold maxLen; omega) (by omega)
    (fun j u hj => by
      rw [List.getElem?_map] at hj
      by_cases hjl : j < zs.length
      · rw [List.getElem?_eq_getElem hjl] at hj
        cases hj
        rw [hc j (by omega), List.getD_eq_getElem?_getD, List.getElem?_eq_getElem hjl]; rfl
      · rw [List.getElem?_eq_none (by omega)] at hj; cases hj)
    (fun u hu => by obtain ⟨x, _, rfl⟩ := List.mem_map.1 hu; rfl)
  change Calls Try.prog 41 _ _ _ at hcl
  have HZ : Hid (∀ x ∈ zs, U64 x) := hz
  have HL : Hid (zs.length = n) := hl
  clear hz hc hl
  go_enter Try.func27, Try.ntmps27
  go_wp2_with fail
  refine hcl.mono ?_
  rintro e w1 ⟨v', rfl, hown, hne, hB⟩
  obtain ⟨g, c, rfl, hg, hgl⟩ := World.ownsRow.form hown hpos
  let d : List F64 := zs.attach.map fun x => ⟨x.val, HZ.out x.val x.property⟩
  have hdm : d.map Subtype.val = zs := by simp [d, List.map_map, Function.comp_def]
  have hdl : d.toArray.size = n := by
    have := congrArg List.length hdm
    rw [List.length_map, HL.out] at this
    rw [List.size_toArray]; exact this
  have hH : Holds encF w1 g 0 d.toArray := by
    intro j hj
    refine ⟨?_, hown.frozenAt _⟩
    rw [Nat.zero_add, hown.cellAt j (by omega), ← hdm, List.map_map]
    have hj' : j < d.length := by simpa using hj
    rw [List.getElem?_map, List.getElem?_eq_getElem hj', getElem!_pos d.toArray j hj, List.getElem_toArray]
    rfl
  have eg : ∀ args w, (callFunc 43 args).run Try.prog w = .ok (.enter 43 args) w := enters_of Try.func43 (by kernel_rfl) rfl
  have hS := Any.slices_SortFunc_total Try.sortL encF (fun _ => rfl) cfF swoF 43 #[] g 0 c d.toArray w1 eg (cmpReads43 g 0 d.toArray.size w1).lays hH hgl (by omega) totF
  rw [hdl] at hS
  change Calls Try.prog 42 _ _ _ at hS
  have hsm := srt_map d
  rw [hdm] at hsm
  have HS : Hid (_ = srt zs) := hsm
  have HH : Hid (Holds encF w1 g 0 d.toArray) := hH
  have HB : Hid (Below w.heap.size w w1 ∧ w.heap.size ≤ g ∧ g < w1.heap.size) := ⟨hB, hg, hgl⟩
  have HD : Hid (d.toArray.size = n) := hdl
  clear hB hg hgl hH hown hsm hdm hdl hne
  dsimp only at hS
  have hml : Hid ((d.mergeSort fun x y => !(ltOf cfF) y x).length = d.toArray.size) := by show _ = _; simp
  generalize d.mergeSort (fun x y => !(ltOf cfF) y x) = ys at *
  generalize d.toArray = da at *
  clear_value d
  go_wp2_with fail
  refine hS.mono ?_
  rintro e w2 ⟨rfl, q, os, hw2⟩
  have HW : Hid (w2 = _) := hw2
  clear hw2 hS hcl
  go_wp2
  go_ret
  have hys : ys.toArray.size = da.size := by rw [List.size_toArray]; exact hml.out
  obtain ⟨f1, f2, f3⟩ := sort_facts HH.out hys HB.out.2.2 HW.out
  refine ⟨g, c, rfl, HB.out.2.1, f3, ?_, HB.out.1.trans (f2.mono HB.out.2.1)⟩
  intro k hk
  have hk' : k < ys.toArray.size := by rw [hys, HD.out]; exact hk
  rw [f1 k hk', ← HS.out, getElem!_pos ys.toArray k hk', List.getD_eq_getElem?_getD, List.getElem?_map, List.getElem?_eq_getElem (by simpa using hk')]
  rfl
end Go.Proofs.Ytnmadkallkoadaa
