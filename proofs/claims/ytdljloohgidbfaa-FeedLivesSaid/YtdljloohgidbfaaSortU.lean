/-
  The contract of slices.Sort at few numbers of type uint64.
-/
import Derived.Test.YtdljloohgidbfaaFeedAlive
import Derived.Shelf.Small.Bits
import Derived.Shelf.Lay
import Derived.Ground.NamesProg
namespace Go.Proofs
open Go.Shelf
shelf_lay Lays.n125 Nm 125 at Try as Try.lenL
end Go.Proofs
namespace Go.Proofs.Ytdljloohgidbfaa
open Go Go.RowKit Go.Mem

theorem isNaN_any (x : Int) (w : World) : Calls Try.prog 50 #[.int .u64 x] w fun e w' => e = .returned (.bool false) ∧ w' = w := by
  have h : ((x : Int) != x) = false := by simp
  go_enter Try.func50, Try.ntmps50
  go_wp2
  go_ret
  exact ⟨rfl, rfl⟩
theorem less_walk (x y : Int) (w : World) : Calls Try.prog 40 #[.int .u64 x, .int .u64 y] w fun e w' => e = .returned (.bool (decide (x < y))) ∧ w' = w := by
  go_enter Try.func40, Try.ntmps40
  go_wp2_with fail
  refine (isNaN_any _ _).mono ?_
  rintro e w' ⟨rfl, rfl⟩
  go_wp2_with fail
  go_ret
  exact ⟨rfl, rfl⟩
theorem less_any (y x : Int) (w : World) (c : Bool) (h : decide (x < y) = c) : Calls Try.prog 40 #[.int .u64 x, .int .u64 y] w fun e w' => e = .returned (.bool c) ∧ w' = w := by
  subst h; exact less_walk x y w

@[reducible] def u64C (z : Int) : List Value := [.int .u64 z]
theorem infoU : ∃ i, Try.prog.info? 25 = some i ∧ i.size = 1 := by
  have h : (Try.prog.info? 25).map (fun i => i.size) = some 1 := by kernel_rfl
  cases hq : Try.prog.info? 25 with
  | none => rw [hq] at h; cases h
  | some i0 => rw [hq] at h; simp at h; exact ⟨i0, rfl, h⟩
theorem index63 (w : World) (g o n c j : Nat) (h : j < n) : (Instr.indexAt 63 (.slice (some ⟨g, o, none⟩) n c) (.int .i64 j)).run Try.prog w = .ok (.pointer (some ⟨g, o + j * 1, none⟩)) w := by
  obtain ⟨i, hi, hz⟩ := infoU
  exact Ex.index_sl Try.underlying63 hi hz w g o n c j .i64 h
theorem size25 : (Try.prog.info? 25).map (·.size) = some 1 := by kernel_rfl

/-- x is on its way down: A and B are in order, x is below all of B -/
structure Down (zs A B R : List Int) (x : Int) : Prop where
  perm : (A ++ x :: (B ++ R)).Perm zs
  sorted : (A ++ B).Pairwise (· ≤ ·)
  below : ∀ b ∈ B, x ≤ b
theorem Down.step {zs A B R : List Int} {x y : Int} (h : Down zs (A ++ [y]) B R x) (hxy : x < y) : Down zs A (y :: B) R x := by
  refine ⟨?_, by simpa using h.sorted, fun b hb => ?_⟩
  · refine List.Perm.trans ?_ h.perm
    simp only [List.append_assoc, List.cons_append, List.nil_append]
    exact List.Perm.append_left _ (List.Perm.swap _ _ _)
  · rcases List.mem_cons.1 hb with rfl | hb
    · omega
    · exact h.below b hb
theorem Down.stop {zs A B R : List Int} {x : Int} (h : Down zs A B R x) (ha : A = [] ∨ ∃ A' y, A = A' ++ [y] ∧ ¬ x < y) : (A ++ x :: B).Pairwise (· ≤ ·) := by
  have hs := List.pairwise_append.1 h.sorted
  refine List.pairwise_append.2 ⟨hs.1, List.pairwise_cons.2 ⟨h.below, hs.2.1⟩, fun a ha' b hb => ?_⟩
  rcases ha with rfl | ⟨A', y, rfl, hy⟩
  · cases ha'
  · have hay : a ≤ y := by
      rcases List.mem_append.1 ha' with h1 | h1
      · exact (List.pairwise_append.1 hs.1).2.2 a h1 y (by simp)
      · rw [List.mem_singleton.1 h1]; exact Int.le_refl _
    rcases List.mem_cons.1 hb with rfl | hb
    · omega
    · exact hs.2.2 a ha' b hb
theorem at_mid {α : Type} {A : List α} {x : α} {B : List α} : (A ++ x :: B)[A.length]? = some x := by simp
theorem free_sl {w : World} {e sz g o n cap : Nat} {xs : List (List Value)} (h : Sl w e sz (.slice (some ⟨g, o, none⟩) n cap) xs) (i : Nat) : w.frozen? ⟨g, i, none⟩ = false := by
  rcases h.2 with ⟨hv, _⟩ | ⟨g', o', cap', cur, hv, hg, _⟩
  · cases hv
  · cases hv
    simp [World.frozen?, hg]
theorem swap_set {A B : List Int} {x y : Int} : ((((A ++ [y]) ++ x :: B).map u64C).set (A.length + 1) (u64C y)).set A.length (u64C x) = (A ++ x :: y :: B).map u64C := by
  have e1 : ((A ++ [y]) ++ x :: B).map u64C = A.map u64C ++ u64C y :: u64C x :: B.map u64C := by simp
  rw [e1, List.set_append_right _ _ (by simp), List.set_append_right _ _ (by simp)]
  simp

set_option maxRecDepth 100000 in
set_option maxHeartbeats 4000000 in
theorem insertion_any (g o n cap : Nat) (zs : List Int) (w : World) (h : Sl w 25 1 (.slice (some ⟨g, o, none⟩) n cap) (zs.map u64C)) (hn : n = zs.length) (hb : n ≤ 12) :
    Calls Try.prog 34 #[.slice (some ⟨g, o, none⟩) n cap, .int .i64 0, .int .i64 n] w fun e w' => e = .returned (.tuple #[]) ∧ ∃ ys : List Int, ys.Perm zs ∧ ys.Pairwise (· ≤ ·) ∧ Sl w' 25 1 (.slice (some ⟨g, o, none⟩) n cap) (ys.map u64C) ∧ Chg (fun k => k = g) w w' := by
  have HS : Hid (Sl w 25 1 (.slice (some ⟨g, o, none⟩) n cap) (zs.map u64C)) := h
  have HN : Hid (n = zs.length) := hn
  clear h hn
  go_enter Try.func34, Try.ntmps34
  go_wp2_with fail
  go_loopw [6] (fun i wr => ∃ (k : Nat) (ys : List Int), 1 ≤ k ∧ (k ≤ n ∨ k = 1) ∧ i = .int .i64 k ∧ ys.Perm zs ∧ (ys.take k).Pairwise (· ≤ ·) ∧ Sl wr 25 1 (.slice (some ⟨g, o, none⟩) n cap) (ys.map u64C) ∧ Chg (fun k => k = g) w wr) (fun i _ => n - (intOf i).toNat)
  case atStart => exact ⟨1, zs, Nat.le_refl _, .inr rfl, rfl, .refl _, by cases zs <;> simp, HS.out, Chg.refl _ _⟩
  case round =>
    obtain ⟨k, ys, hk1, hk2, rfl, hp, hso, hsl, hch⟩ := hrel
    have HP : Hid (ys.Perm zs) := hp
    have HSO : Hid ((ys.take k).Pairwise (· ≤ ·)) := hso
    have HSL : Hid (Sl wr 25 1 (.slice (some ⟨g, o, none⟩) n cap) (ys.map u64C)) := hsl
    have HC : Hid (Chg (fun k => k = g) w wr) := hch
    clear hp hso hsl hch HS
    have hyl : ys.length = n := by rw [HN.out]; exact HP.out.length_eq
    have HYL : Hid (ys.length = n) := hyl
    clear hyl
    by_cases hkn : k < n
    · go_wp2_with fail
      have hD0 : ∃ (A B R : List Int) (x : Int), ys = A ++ x :: (B ++ R) ∧ A.length = k ∧ A.length + 1 + B.length = k + 1 ∧ Down zs A B R x := by
        have hl : k < ys.length := by rw [HYL.out]; exact hkn
        refine ⟨ys.take k, [], ys.drop (k + 1), ys[k], ?_, by rw [List.length_take]; omega, by rw [List.length_take]; simp; omega, ?_, by simpa using HSO.out, fun b hb => by cases hb⟩
        · rw [List.nil_append, ← List.drop_eq_getElem_cons hl, List.take_append_drop]
        · rw [List.nil_append, ← List.drop_eq_getElem_cons hl, List.take_append_drop]; exact HP.out
      have HD0 : Hid (∃ (A B R : List Int) (x : Int), ys = A ++ x :: (B ++ R) ∧ A.length = k ∧ A.length + 1 + B.length = k + 1 ∧ Down zs A B R x) := hD0
      clear hD0
      go_loopw [7] (fun j wr => ∃ (A B R : List Int) (x : Int), j = .int .i64 A.length ∧ A.length + 1 + B.length = k + 1 ∧ Down zs A B R x ∧ Sl wr 25 1 (.slice (some ⟨g, o, none⟩) n cap) ((A ++ x :: (B ++ R)).map u64C) ∧ Chg (fun k => k = g) w wr) (fun j _ => (intOf j).toNat)
      case atStart =>
        obtain ⟨A, B, R, x, h1, h2, h3, h4⟩ := HD0.out
        exact ⟨A, B, R, x, by rw [h2], h3, h4, by rw [← h1]; exact HSL.out, HC.out⟩
      case round =>
        obtain ⟨A, B, R, x, rfl, hAB, hD, hsl, hch⟩ := hrel
        have HD : Hid (Down zs A B R x) := hD
        have HSL2 : Hid (Sl wr 25 1 (.slice (some ⟨g, o, none⟩) n cap) ((A ++ x :: (B ++ R)).map u64C)) := hsl
        have HC2 : Hid (Chg (fun k => k = g) w wr) := hch
        have HAB : Hid (A.length + 1 + B.length = k + 1) := hAB
        have hlen : A.length + 1 + B.length + R.length = n := by
          have := HD.out.perm.length_eq
          rw [← HN.out] at this
          simp at this; omega
        have HLN : Hid (A.length + 1 + B.length + R.length = n) := hlen
        clear hD hsl hch HSL HC HSO HP HYL HD0
        rcases List.eq_nil_or_concat A with hA | ⟨A', y, hA⟩
        · subst hA
          simp only [List.length_nil] at *
          clear hAB hlen
          go_wp2_with fail
          refine Go.Drawn.wp_region_chain [[], [], [0, 1], [0, 1, 2], [0, 1, 2, 3], [0, 1, 2, 3], [0, 1, 2, 3, 4, 5], [0, 1, 2, 3, 4, 5, 6], [0, 1, 2, 3], [0, 1, 2, 3], [0, 1, 2, 3, 9], [0, 1, 2, 3, 8, 9, 10], [0, 1, 2, 3, 8, 9, 10, 11], [0, 1, 2, 3, 4, 5, 6, 7, 8, 9, 10, 11, 12], [0, 1, 2, 3, 4, 5, 6, 7, 8, 9, 10, 11, 12, 13]] [.int .i64 0, .int .i64 0, .bool false, .bool false, undef, undef, undef, undef, undef, undef, undef, undef, undef, undef, .bool false] (fun k => ([wr.drew] : List World).getD k (wr.drew)) [] [[0], [0], [0], [0], [0], [0], [0], [0], [0], [0], [0], [0], [0], [0], [0]] (by kernel_rfl) (by kernel_rfl) (by kernel_rfl) (by kernel_rfl) (by kernel_rfl) (by kernel_rfl) ?_ ?_ ?_
          · exact rfl
          · exact ⟨⟨(.val (by kernel_rfl) (by kernel_rfl)), trivial⟩,
      ⟨(.val (by kernel_rfl) (by kernel_rfl)), trivial⟩,
      ⟨(.val (by kernel_rfl) (Ex.gtr_int rfl rfl rfl (by decide))), trivial⟩,
      ⟨(.val (by kernel_rfl) (by kernel_rfl)), trivial⟩,
      ⟨(.no (by kernel_rfl) rfl), trivial⟩,
      ⟨(.no (by kernel_rfl) rfl), trivial⟩,
      ⟨(.no (by kernel_rfl) rfl), trivial⟩,
      ⟨(.no (by kernel_rfl) rfl), trivial⟩,
      ⟨(.no (by kernel_rfl) rfl), trivial⟩,
      ⟨(.no (by kernel_rfl) rfl), trivial⟩,
      ⟨(.no (by kernel_rfl) rfl), trivial⟩,
      ⟨(.no (by kernel_rfl) rfl), trivial⟩,
      ⟨(.no (by kernel_rfl) rfl), trivial⟩,
      ⟨(.no (by kernel_rfl) rfl), trivial⟩,
      ⟨(.val (by kernel_rfl) (by kernel_rfl)), trivial⟩,
      trivial⟩
          simp only [Go.Drawn.putAll, Act.put, List.getD_cons_zero, List.getD_cons_succ, List.setIfInBounds_toArray, List.set_cons_zero, List.set_cons_succ, List.length_nil]
          have hst := HD.out.stop (.inl rfl)
          have hk := HAB.out
          simp only [Nat.zero_add] at hk
          have HST : Hid ((x :: B).Pairwise (· ≤ ·)) := hst
          have HTK : Hid ((([] : List Int) ++ x :: (B ++ R)).take (k + 1) = x :: B) := by
            unfold Hid
            rw [List.nil_append, show k + 1 = (x :: B).length by simp; omega, show x :: (B ++ R) = (x :: B) ++ R from rfl, List.take_left]
          clear hst hk
          go_wp2_with fail
          refine ⟨⟨k + 1, [] ++ x :: (B ++ R), by omega, .inl (by omega), by go_num, HD.out.perm, by rw [HTK.out]; exact HST.out, HSL2.out, HC2.out.drew⟩, ?_⟩
          simp [intOf]; omega
        · rw [List.concat_eq_append] at hA
          subst hA
          obtain ⟨j, hj⟩ : ∃ j, j = A'.length + 1 := ⟨_, rfl⟩
          have hAl : (A' ++ [y]).length = j := by simp [hj]
          rw [hAl] at hAB hlen ⊢
          have HJ : Hid (j = A'.length + 1) := hj
          have hj1 : 1 ≤ j := by omega
          have hjn : j < n := by omega
          have hgt : decide ((0 : Int) < (j : Int)) = true := by simp; omega
          have hsub : IntKind.i64.wrap ((j : Int) - 1) = ((j - 1 : Nat) : Int) := by rw [IntWalk.i64_in _ ⟨by omega, by omega⟩]; omega
          have hi1 := fun W => index63 W g o n cap j hjn
          have hi2 := fun W => index63 W g o n cap (j - 1) (by omega)
          have hx := HSL2.out.at (i := j) (x := u64C x) (by rw [List.getElem?_map, ← hAl, at_mid]; rfl)
          have hy := HSL2.out.at (i := j - 1) (x := u64C y) (by rw [List.getElem?_map, List.append_assoc, List.singleton_append, show j - 1 = A'.length by omega, at_mid]; rfl)
          obtain ⟨g1, o1, c1, hv1, hr1⟩ := hx
          obtain ⟨rfl, rfl⟩ : g1 = g ∧ o1 = o := by have := (Value.slice.inj hv1).1; simp at this; exact ⟨this.1.symm, this.2.symm⟩
          obtain ⟨g2, o2, c2, hv2, hr2⟩ := hy
          obtain ⟨rfl, rfl⟩ : g2 = g1 ∧ o2 = o1 := by have := (Value.slice.inj hv2).1; simp at this; exact ⟨this.1.symm, this.2.symm⟩
          have hcx : wr.cell? ⟨g2, o2 + j * 1, none⟩ = some (.int .u64 x) := hr1 0 _ rfl
          have hcy : wr.cell? ⟨g2, o2 + (j - 1) * 1, none⟩ = some (.int .u64 y) := hr2 0 _ rfl
          have HJ1 : Hid (j - 1 = A'.length) := by unfold Hid; omega
          clear hv1 hr1 hv2 hr2 hj hAl
          by_cases hxy : x < y
          · have hyx : decide (x < y) = true := by simpa using hxy
            have hl1 : (Instr.loadAt 25 (.pointer (some ⟨g2, o2 + j * 1, none⟩))).run Try.prog wr.drew = .ok (.int .u64 x) wr.drew := Ex.load1 Try.underlying25 rfl hcx
            have hl2 : (Instr.loadAt 25 (.pointer (some ⟨g2, o2 + (j - 1) * 1, none⟩))).run Try.prog wr.drew = .ok (.int .u64 y) wr.drew := Ex.load1 Try.underlying25 rfl hcy
            go_wp2_with fail
            refine Go.Drawn.wp_region_chain [[], [], [0, 1], [0, 1, 2], [0, 1, 2, 3], [0, 1, 2, 3], [0, 1, 2, 3, 4, 5], [0, 1, 2, 3, 4, 5, 6], [0, 1, 2, 3], [0, 1, 2, 3], [0, 1, 2, 3, 9], [0, 1, 2, 3, 8, 9, 10], [0, 1, 2, 3, 8, 9, 10, 11], [0, 1, 2, 3, 4, 5, 6, 7, 8, 9, 10, 11, 12], [0, 1, 2, 3, 4, 5, 6, 7, 8, 9, 10, 11, 12, 13]] [.int .i64 j, .int .i64 0, .bool true, .bool true, .slice (some ⟨g2, o2, none⟩) n cap, .int .i64 j, .pointer (some ⟨g2, o2 + j * 1, none⟩), .int .u64 x, .slice (some ⟨g2, o2, none⟩) n cap, .int .i64 j, .int .i64 ((j - 1 : Nat) : Int), .pointer (some ⟨g2, o2 + (j - 1) * 1, none⟩), .int .u64 y, .bool true, .bool true] (fun k => ([wr.drew] : List World).getD k (wr.drew)) [] [[0], [0], [0], [0], [0], [0], [0], [0], [0], [0], [0], [0], [0], [0], [0]] (by kernel_rfl) (by kernel_rfl) (by kernel_rfl) (by kernel_rfl) (by kernel_rfl) (by kernel_rfl) ?_ ?_ ?_
            · exact rfl
            · exact ⟨⟨(.val (by kernel_rfl) (by kernel_rfl)), trivial⟩,
      ⟨(.val (by kernel_rfl) (by kernel_rfl)), trivial⟩,
      ⟨(.val (by kernel_rfl) (Ex.gtr_int rfl rfl rfl hgt)), trivial⟩,
      ⟨(.val (by kernel_rfl) (by kernel_rfl)), trivial⟩,
      ⟨(.val (by kernel_rfl) (by kernel_rfl)), trivial⟩,
      ⟨(.val (by kernel_rfl) (by kernel_rfl)), trivial⟩,
      ⟨(.val (by kernel_rfl) (Ex.indexAddr rfl (hi1 _))), trivial⟩,
      ⟨(.val (by kernel_rfl) (Ex.load rfl hl1)), trivial⟩,
      ⟨(.val (by kernel_rfl) (by kernel_rfl)), trivial⟩,
      ⟨(.val (by kernel_rfl) (by kernel_rfl)), trivial⟩,
      ⟨(.val (by kernel_rfl) (Ex.sub_int rfl rfl rfl hsub)), trivial⟩,
      ⟨(.val (by kernel_rfl) (Ex.indexAddr rfl (hi2 _))), trivial⟩,
      ⟨(.val (by kernel_rfl) (Ex.load rfl hl2)), trivial⟩,
      ⟨(.call (by kernel_rfl) (by kernel_rfl) (less_any y x wr.drew _ hyx)), trivial⟩,
      ⟨(.val (by kernel_rfl) (by kernel_rfl)), trivial⟩,
      trivial⟩
            simp only [Go.Drawn.putAll, Act.put, List.getD_cons_zero, List.getD_cons_succ, List.setIfInBounds_toArray, List.set_cons_zero, List.set_cons_succ, List.length_nil]
            clear hl1 hl2 hyx hgt
            go_wp2_with fail
            obtain ⟨W1, hW1⟩ : ∃ W1, W1 = wr.drew.drew.setCell ⟨g2, o2 + j * 1, none⟩ (.int .u64 y) := ⟨_, rfl⟩
            obtain ⟨W2, hW2⟩ : ∃ W2, W2 = W1.setCell ⟨g2, o2 + (j - 1) * 1, none⟩ (.int .u64 x) := ⟨_, rfl⟩
            have hl1 : (Instr.loadAt 25 (.pointer (some ⟨g2, o2 + j * 1, none⟩))).run Try.prog wr.drew.drew = .ok (.int .u64 x) wr.drew.drew := Ex.load1 Try.underlying25 rfl hcx
            have hl2 : (Instr.loadAt 25 (.pointer (some ⟨g2, o2 + (j - 1) * 1, none⟩))).run Try.prog wr.drew.drew = .ok (.int .u64 y) wr.drew.drew := Ex.load1 Try.underlying25 rfl hcy
            have hll : j < (((A' ++ [y]) ++ x :: (B ++ R)).map u64C).length := by have := HJ.out; simp; omega
            have hsla : Sl W1 25 1 (.slice (some ⟨g2, o2, none⟩) n cap) ((((A' ++ [y]) ++ x :: (B ++ R)).map u64C).set j (u64C y)) := by
              rw [hW1, Nat.mul_one]
              exact (show Sl wr.drew.drew 25 1 (.slice (some ⟨g2, o2, none⟩) n cap) _ from HSL2.out).set1 hll _
            have hslb : Sl W2 25 1 (.slice (some ⟨g2, o2, none⟩) n cap) (((((A' ++ [y]) ++ x :: (B ++ R)).map u64C).set j (u64C y)).set (j - 1) (u64C x)) := by
              rw [hW2, Nat.mul_one]
              exact hsla.set1 (by rw [List.length_set]; omega) _
            rw [HJ.out, Nat.add_sub_cancel, swap_set] at hslb
            have fr := free_sl HSL2.out
            have fr1 := free_sl hsla
            have hs1 : (Instr.storeAt 25 (.pointer (some ⟨g2, o2 + j * 1, none⟩)) (.int .u64 y)).run Try.prog wr.drew.drew = .ok () W1 := by
              rw [hW1]; exact Ex.store1 size25 rfl rfl (u := .int .u64 x) hcx (fr _)
            have hs2 : (Instr.storeAt 25 (.pointer (some ⟨g2, o2 + (j - 1) * 1, none⟩)) (.int .u64 x)).run Try.prog W1 = .ok () W2 := by
              rw [hW2]
              refine Ex.store1 size25 rfl rfl (u := .int .u64 y) ?_ (fr1 _)
              have h2 := hsla.at (i := j - 1) (x := u64C y) (by rw [List.getElem?_set_ne (by omega), List.getElem?_map, List.append_assoc, List.singleton_append, HJ1.out, at_mid]; rfl)
              obtain ⟨g3, o3, c3, hv3, hr3⟩ := h2
              obtain ⟨rfl, rfl⟩ : g3 = g2 ∧ o3 = o2 := by have := (Value.slice.inj hv3).1; simp at this; exact ⟨this.1.symm, this.2.symm⟩
              exact hr3 0 _ rfl
            have HCW : Hid (Chg (fun k => k = g2) w W2) := by
              unfold Hid
              rw [hW2, hW1]
              exact (HC2.out.drew.drew.setCell (.inl rfl) _).setCell (.inl rfl) _
            have HSW : Hid (Sl W2 25 1 (.slice (some ⟨g2, o2, none⟩) n cap) ((A' ++ x :: (y :: B ++ R)).map u64C)) := hslb
            clear hW1 hW2 hll hsla hslb fr fr1 hcx hcy
            refine Go.Drawn.wp_region_chain [[], [], [], [], [3], [], [], [6], [5, 6, 7], [5, 6, 7, 8], [], [], [10, 11], [10, 11, 12], [0, 1, 5, 6, 7, 8, 9, 10, 11, 12, 13], [0, 1, 5, 6, 7, 8, 9, 10, 11, 12, 13, 14], [0, 1, 2, 3, 4, 5, 6, 7, 8, 9, 10, 11, 12, 13, 14, 15], [0, 1, 2, 3, 4, 5, 6, 7, 8, 9, 10, 11, 12, 13, 14, 15, 16]] [.slice (some ⟨g2, o2, none⟩) n cap, .int .i64 j, .slice (some ⟨g2, o2, none⟩) n cap, .int .i64 j, .int .i64 ((j - 1 : Nat) : Int), .slice (some ⟨g2, o2, none⟩) n cap, .int .i64 j, .int .i64 ((j - 1 : Nat) : Int), .pointer (some ⟨g2, o2 + (j - 1) * 1, none⟩), .int .u64 y, .slice (some ⟨g2, o2, none⟩) n cap, .int .i64 j, .pointer (some ⟨g2, o2 + j * 1, none⟩), .int .u64 x, .pointer (some ⟨g2, o2 + j * 1, none⟩), undef, .pointer (some ⟨g2, o2 + (j - 1) * 1, none⟩), undef] (fun k => ([wr.drew.drew, W1, W2] : List World).getD k (wr.drew.drew)) [15, 17] [[0], [0], [0, 1], [0, 1], [0, 1], [0], [0], [0], [0], [0], [0], [0], [0], [0], [0], [0], [1], [1]] (by kernel_rfl) (by kernel_rfl) (by kernel_rfl) (by kernel_rfl) (by kernel_rfl) (by kernel_rfl) ?_ ?_ ?_
            · exact rfl
            · exact ⟨⟨(.val (by kernel_rfl) (by kernel_rfl)), trivial⟩,
      ⟨(.val (by kernel_rfl) (by kernel_rfl)), trivial⟩,
      ⟨(.val (by kernel_rfl) (by kernel_rfl)), (.val (by kernel_rfl) (by kernel_rfl)), trivial⟩,
      ⟨(.val (by kernel_rfl) (by kernel_rfl)), (.val (by kernel_rfl) (by kernel_rfl)), trivial⟩,
      ⟨(.val (by kernel_rfl) (Ex.sub_int rfl rfl rfl hsub)), (.val (by kernel_rfl) (Ex.sub_int rfl rfl rfl hsub)), trivial⟩,
      ⟨(.val (by kernel_rfl) (by kernel_rfl)), trivial⟩,
      ⟨(.val (by kernel_rfl) (by kernel_rfl)), trivial⟩,
      ⟨(.val (by kernel_rfl) (Ex.sub_int rfl rfl rfl hsub)), trivial⟩,
      ⟨(.val (by kernel_rfl) (Ex.indexAddr rfl (hi2 _))), trivial⟩,
      ⟨(.val (by kernel_rfl) (Ex.load rfl hl2)), trivial⟩,
      ⟨(.val (by kernel_rfl) (by kernel_rfl)), trivial⟩,
      ⟨(.val (by kernel_rfl) (by kernel_rfl)), trivial⟩,
      ⟨(.val (by kernel_rfl) (Ex.indexAddr rfl (hi1 _))), trivial⟩,
      ⟨(.val (by kernel_rfl) (Ex.load rfl hl1)), trivial⟩,
      ⟨(.val (by kernel_rfl) (Ex.indexAddr rfl (hi1 _))), trivial⟩,
      ⟨(.skip (by kernel_rfl) (Ex.store rfl hs1) rfl), trivial⟩,
      ⟨(.val (by kernel_rfl) (Ex.indexAddr rfl (hi2 _))), trivial⟩,
      ⟨(.skip (by kernel_rfl) (Ex.store rfl hs2) rfl), trivial⟩,
      trivial⟩
            simp only [Go.Drawn.putAll, Act.put, List.getD_cons_zero, List.getD_cons_succ, List.setIfInBounds_toArray, List.set_cons_zero, List.set_cons_succ, List.length_cons, List.length_nil, Nat.reduceAdd]
            clear hl1 hl2 hs1 hs2 hi1 hi2 hsub
            have hjA : ((j - 1 : Nat) : Int) = (A'.length : Int) := by rw [HJ1.out]
            go_wp2_with fail
            refine ⟨⟨A', y :: B, R, x, ?_, ?_, HD.out.step hxy, HSW.out, HCW.out⟩, ?_⟩
            · have := HJ.out; congr 1; omega
            · have := HJ.out; simp only [List.length_cons]; omega
            · have := HJ.out; simp [intOf]; omega
          · have hyx : decide (x < y) = false := by simpa using hxy
            have hl1 : (Instr.loadAt 25 (.pointer (some ⟨g2, o2 + j * 1, none⟩))).run Try.prog wr.drew = .ok (.int .u64 x) wr.drew := Ex.load1 Try.underlying25 rfl hcx
            have hl2 : (Instr.loadAt 25 (.pointer (some ⟨g2, o2 + (j - 1) * 1, none⟩))).run Try.prog wr.drew = .ok (.int .u64 y) wr.drew := Ex.load1 Try.underlying25 rfl hcy
            have HST : Hid (((A' ++ [y]) ++ x :: B).Pairwise (· ≤ ·)) := HD.out.stop (.inr ⟨A', y, rfl, hxy⟩)
            have HTK : Hid (((A' ++ [y]) ++ x :: (B ++ R)).take (k + 1) = (A' ++ [y]) ++ x :: B) := by
              unfold Hid
              rw [show (A' ++ [y]) ++ x :: (B ++ R) = ((A' ++ [y]) ++ x :: B) ++ R by simp, show k + 1 = ((A' ++ [y]) ++ x :: B).length by have := HJ.out; simp; omega, List.take_left]
            go_wp2_with fail
            refine Go.Drawn.wp_region_chain [[], [], [0, 1], [0, 1, 2], [0, 1, 2, 3], [0, 1, 2, 3], [0, 1, 2, 3, 4, 5], [0, 1, 2, 3, 4, 5, 6], [0, 1, 2, 3], [0, 1, 2, 3], [0, 1, 2, 3, 9], [0, 1, 2, 3, 8, 9, 10], [0, 1, 2, 3, 8, 9, 10, 11], [0, 1, 2, 3, 4, 5, 6, 7, 8, 9, 10, 11, 12], [0, 1, 2, 3, 4, 5, 6, 7, 8, 9, 10, 11, 12, 13]] [.int .i64 j, .int .i64 0, .bool true, .bool true, .slice (some ⟨g2, o2, none⟩) n cap, .int .i64 j, .pointer (some ⟨g2, o2 + j * 1, none⟩), .int .u64 x, .slice (some ⟨g2, o2, none⟩) n cap, .int .i64 j, .int .i64 ((j - 1 : Nat) : Int), .pointer (some ⟨g2, o2 + (j - 1) * 1, none⟩), .int .u64 y, .bool false, .bool false] (fun k => ([wr.drew] : List World).getD k (wr.drew)) [] [[0], [0], [0], [0], [0], [0], [0], [0], [0], [0], [0], [0], [0], [0], [0]] (by kernel_rfl) (by kernel_rfl) (by kernel_rfl) (by kernel_rfl) (by kernel_rfl) (by kernel_rfl) ?_ ?_ ?_
            · exact rfl
            · exact ⟨⟨(.val (by kernel_rfl) (by kernel_rfl)), trivial⟩,
      ⟨(.val (by kernel_rfl) (by kernel_rfl)), trivial⟩,
      ⟨(.val (by kernel_rfl) (Ex.gtr_int rfl rfl rfl hgt)), trivial⟩,
      ⟨(.val (by kernel_rfl) (by kernel_rfl)), trivial⟩,
      ⟨(.val (by kernel_rfl) (by kernel_rfl)), trivial⟩,
      ⟨(.val (by kernel_rfl) (by kernel_rfl)), trivial⟩,
      ⟨(.val (by kernel_rfl) (Ex.indexAddr rfl (hi1 _))), trivial⟩,
      ⟨(.val (by kernel_rfl) (Ex.load rfl hl1)), trivial⟩,
      ⟨(.val (by kernel_rfl) (by kernel_rfl)), trivial⟩,
      ⟨(.val (by kernel_rfl) (by kernel_rfl)), trivial⟩,
      ⟨(.val (by kernel_rfl) (Ex.sub_int rfl rfl rfl hsub)), trivial⟩,
      ⟨(.val (by kernel_rfl) (Ex.indexAddr rfl (hi2 _))), trivial⟩,
      ⟨(.val (by kernel_rfl) (Ex.load rfl hl2)), trivial⟩,
      ⟨(.call (by kernel_rfl) (by kernel_rfl) (less_any y x wr.drew _ hyx)), trivial⟩,
      ⟨(.val (by kernel_rfl) (by kernel_rfl)), trivial⟩,
      trivial⟩
            simp only [Go.Drawn.putAll, Act.put, List.getD_cons_zero, List.getD_cons_succ, List.setIfInBounds_toArray, List.set_cons_zero, List.set_cons_succ, List.length_nil]
            clear hl1 hl2 hyx hgt hcx hcy hi1 hi2 hsub
            go_wp2_with fail
            refine ⟨⟨k + 1, (A' ++ [y]) ++ x :: (B ++ R), by omega, .inl (by omega), by go_num, HD.out.perm, by rw [HTK.out]; exact HST.out, HSL2.out, HC2.out.drew⟩, ?_⟩
            simp [intOf]; omega
    · go_wp2_with fail
      go_end0
      refine ⟨rfl, ys, HP.out, ?_, HSL.out, HC.out⟩
      have := HSO.out
      rwa [List.take_of_length_le (by rw [HYL.out]; omega)] at this

theorem len_any (n : Nat) (w : World) (h : n ≤ 12) : Calls Try.prog 33 #[.int .u64 n] w fun e w' => (∃ r : Int, e = .returned (.int .i64 r)) ∧ w' = w := by
  have hc := Any.bits_Len Try.lenL (n : Int) w (by omega) (by omega)
  change Calls Try.prog 33 _ _ _ at hc
  exact hc.mono fun e w' ⟨he, hw⟩ => ⟨⟨_, he⟩, hw⟩
set_option maxRecDepth 100000 in
set_option maxHeartbeats 4000000 in
theorem pdq_any (g o n cap : Nat) (r : Int) (zs : List Int) (w : World) (h : Sl w 25 1 (.slice (some ⟨g, o, none⟩) n cap) (zs.map u64C)) (hn : n = zs.length) (hb : n ≤ 12) :
    Calls Try.prog 32 #[.slice (some ⟨g, o, none⟩) n cap, .int .i64 0, .int .i64 n, .int .i64 r] w fun e w' => e = .returned (.tuple #[]) ∧ ∃ ys : List Int, ys.Perm zs ∧ ys.Pairwise (· ≤ ·) ∧ Sl w' 25 1 (.slice (some ⟨g, o, none⟩) n cap) (ys.map u64C) ∧ Chg (fun k => k = g) w w' := by
  have hi := insertion_any g o n cap zs w h hn hb
  clear h hn
  go_enter Try.func32, Try.ntmps32
  go_wp2_with fail
  refine wp_loop_once ?_
  go_wp2_with fail
  refine hi.mono ?_
  rintro e w2 ⟨rfl, ys, h1, h2, h3, h4⟩
  have HF : Hid (∃ ys : List Int, ys.Perm zs ∧ ys.Pairwise (· ≤ ·) ∧ Sl w2 25 1 (.slice (some ⟨g, o, none⟩) n cap) (ys.map u64C) ∧ Chg (fun k => k = g) w w2) := ⟨ys, h1, h2, h3, h4⟩
  clear h1 h2 h3 h4 hi
  go_wp2_with fail
  refine bodyPost_ret (results_none rfl _ _ _) rfl ?_
  exact ⟨rfl, HF.out⟩

set_option maxRecDepth 100000 in
set_option maxHeartbeats 4000000 in
theorem sort_any (g o n cap : Nat) (zs : List Int) (w : World) (h : Sl w 25 1 (.slice (some ⟨g, o, none⟩) n cap) (zs.map u64C)) (hn : n = zs.length) (hb : n ≤ 12) :
    Calls Try.prog 31 #[.slice (some ⟨g, o, none⟩) n cap] w fun e w' => e = .returned (.tuple #[]) ∧ ∃ ys : List Int, ys.Perm zs ∧ ys.Pairwise (· ≤ ·) ∧ Sl w' 25 1 (.slice (some ⟨g, o, none⟩) n cap) (ys.map u64C) ∧ Chg (fun k => k = g) w w' := by
  have hi := fun r => pdq_any g o n cap r zs w h hn hb
  have hl := len_any n w hb
  clear h hn
  go_enter Try.func31, Try.ntmps31
  go_wp2_with fail
  refine hl.mono ?_
  rintro e w' ⟨⟨r, rfl⟩, hw⟩
  subst hw
  clear hl
  go_wp2_with fail
  refine (hi r).mono ?_
  rintro e w2 ⟨rfl, ys, h1, h2, h3, h4⟩
  have HF : Hid (∃ ys : List Int, ys.Perm zs ∧ ys.Pairwise (· ≤ ·) ∧ Sl w2 25 1 (.slice (some ⟨g, o, none⟩) n cap) (ys.map u64C) ∧ Chg (fun k => k = g) w' w2) := ⟨ys, h1, h2, h3, h4⟩
  clear h1 h2 h3 h4 hi
  go_wp2_with fail
  go_end0
  exact ⟨rfl, HF.out⟩
end Go.Proofs.Ytdljloohgidbfaa
