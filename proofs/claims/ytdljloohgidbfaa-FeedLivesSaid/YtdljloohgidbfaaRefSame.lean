/-
  The contract of the document's Same: equal lists of items.
-/
import Derived.Test.YtdljloohgidbfaaRefConv
namespace Go.Proofs.Ytdljloohgidbfaa
open Go Go.RowKit Go.Mem

theorem It.shape80 (x : It) : Same.shapeB Try.prog 5 80 x.cells = true := by
  obtain ⟨a, b, v, l⟩ := x
  kernel_rfl
theorem row80 : (Try.prog.underlying 80).any (·.isRow) = true := by kernel_rfl
theorem neq80 (x y : It) (r : Bool) (hr : r = true ↔ x = y) (w : World) : (binOp .neq 80 (.agg x.cells.toArray) (.agg y.cells.toArray)).run Try.prog w = .ok (.bool (!r)) w :=
  Same.run_neq w (d := 5) (by decide) row80 x.shape80 y.shape80 r (by rw [hr]; exact ⟨fun h => by rw [h], It.inj⟩)

set_option maxRecDepth 100000 in
set_option maxHeartbeats 4000000 in
theorem rsame_any (a b : Value) (xs ys : List It) (w : World) (ha : Sl w 80 35 a (xs.map It.cells)) (hb : Sl w 80 35 b (ys.map It.cells)) (hx : xs.length ≤ 1000) :
    Calls Try.prog 22 #[a, b] w fun e w' => ∃ r : Bool, e = .returned (.bool r) ∧ (r = true ↔ xs = ys) ∧ Chg (fun _ => False) w w' := by
  obtain ⟨aa, ca, rfl, _⟩ := Sl.shape2 ha
  obtain ⟨ab, cb, rfl, _⟩ := Sl.shape2 hb
  rw [List.length_map] at ha hb ⊢
  rw [List.length_map]
  by_cases hl : xs.length = ys.length
  · obtain ⟨n, hn⟩ : ∃ n, n = xs.length := ⟨_, rfl⟩
    rw [← hl, ← hn] at hb ⊢
    rw [← hn] at ha
    have HA : Hid (Sl w 80 35 (.slice aa n ca) (xs.map It.cells)) := ha
    have HB : Hid (Sl w 80 35 (.slice ab n cb) (ys.map It.cells)) := hb
    have HN : Hid (n = xs.length) := hn
    have HL : Hid (xs.length = ys.length) := hl
    have hn1 : n ≤ 1000 := by omega
    clear ha hb hn hl hx
    go_enter Try.func22, Try.ntmps22
    go_wp2_with fail
    go_loopw [5] (fun i wr => ∃ j : Nat, j ≤ n ∧ i = .int .i64 j ∧ xs.take j = ys.take j ∧ Chg (fun _ => False) w wr) (fun i _ => n - (intOf i).toNat)
    case atStart => exact ⟨0, Nat.zero_le _, rfl, rfl, Chg.refl _ _⟩
    case round =>
      obtain ⟨j, hj, rfl, htk, hch⟩ := hrel
      have HT : Hid (xs.take j = ys.take j) := htk
      have HC : Hid (Chg (fun _ => False) w wr) := hch
      clear htk hch
      by_cases hjn : j < n
      · obtain ⟨x, hx⟩ : ∃ x, xs[j]? = some x := ⟨_, List.getElem?_eq_getElem (by rw [← HN.out]; exact hjn)⟩
        obtain ⟨y, hy⟩ : ∃ y, ys[j]? = some y := ⟨_, List.getElem?_eq_getElem (by rw [← HL.out, ← HN.out]; exact hjn)⟩
        obtain ⟨ga, oa, _, hva, hra⟩ := (HA.out.chg HC.out fun _ _ h => h).at (i := j) (x := x.cells) (by rw [List.getElem?_map, hx]; rfl)
        obtain ⟨gb, ob, _, hvb, hrb⟩ := (HB.out.chg HC.out fun _ _ h => h).at (i := j) (x := y.cells) (by rw [List.getElem?_map, hy]; rfl)
        have e1 : aa = some ⟨ga, oa, none⟩ := (Value.slice.inj hva).1
        have e2 : ab = some ⟨gb, ob, none⟩ := (Value.slice.inj hvb).1
        subst e1 e2
        obtain ⟨r, hr⟩ : ∃ r : Bool, r = true ↔ x = y := by
          by_cases h : x = y
          · exact ⟨true, by simp [h]⟩
          · exact ⟨false, by simp [h]⟩
        have hla := load80 (w := wr.drew) (x := x) hra
        have hlb := load80 (w := wr.drew) (x := y) hrb
        have hia := index58 wr.drew ga oa n ca j hjn
        have hib := index58 wr.drew gb ob n cb j hjn
        have hne := neq80 x y r hr wr.drew
        have HX : Hid (xs[j]? = some x) := hx
        have HY : Hid (ys[j]? = some y) := hy
        have HR : Hid (r = true ↔ x = y) := hr
        clear hva hvb hra hrb hx hy hr
        go_wp2_with fail
        refine Go.Drawn.wp_region_chain [[], [], [0, 1], [0, 1, 2], [], [], [4, 5], [4, 5, 6], [0, 1, 2, 3, 4, 5, 6, 7]] [.slice (some ⟨ga, oa, none⟩) n ca, .int .i64 j, .pointer (some ⟨ga, oa + j * 35, none⟩), .agg x.cells.toArray, .slice (some ⟨gb, ob, none⟩) n cb, .int .i64 j, .pointer (some ⟨gb, ob + j * 35, none⟩), .agg y.cells.toArray, .bool (!r)] (fun k => ([wr.drew] : List World).getD k (wr.drew)) [] [[0], [0], [0], [0], [0], [0], [0], [0], [0]] (by kernel_rfl) (by kernel_rfl) (by kernel_rfl) (by kernel_rfl) (by kernel_rfl) (by kernel_rfl) ?_ ?_ ?_
        · exact rfl
        · exact ⟨⟨(.val (by kernel_rfl) (by kernel_rfl)), trivial⟩,
      ⟨(.val (by kernel_rfl) (by kernel_rfl)), trivial⟩,
      ⟨(.val (by kernel_rfl) (Ex.indexAddr rfl hia)), trivial⟩,
      ⟨(.val (by kernel_rfl) (Ex.load rfl hla)), trivial⟩,
      ⟨(.val (by kernel_rfl) (by kernel_rfl)), trivial⟩,
      ⟨(.val (by kernel_rfl) (by kernel_rfl)), trivial⟩,
      ⟨(.val (by kernel_rfl) (Ex.indexAddr rfl hib)), trivial⟩,
      ⟨(.val (by kernel_rfl) (Ex.load rfl hlb)), trivial⟩,
      ⟨(.val (by kernel_rfl) (Ex.binAgg rfl rfl rfl (by kernel_rfl) hne)), trivial⟩,
      trivial⟩
        simp only [Go.Drawn.putAll, Act.put, List.getD_cons_zero, List.getD_cons_succ, List.setIfInBounds_toArray, List.set_cons_zero, List.set_cons_succ, List.length_nil]
        clear hla hlb hia hib hne
        cases r
        · go_wp2_with fail
          go_ret
          refine ⟨false, rfl, ?_, HC.out.drew⟩
          simp only [Bool.false_eq_true, false_iff]
          exact fun h => absurd (HR.out.2 (head_ne HX.out HY.out h)) (by simp)
        · go_wp2_with fail
          refine ⟨⟨j + 1, by omega, by go_num, ?_, HC.out.drew⟩, ?_⟩
          · rw [List.take_add_one, List.take_add_one, HT.out, HX.out, HY.out, HR.out.1 rfl]
          · simp [intOf]; omega
      · have hjn' : j = n := by omega
        have HJ : Hid (j = n) := hjn'
        clear hjn'
        go_wp2_with fail
        go_ret
        refine ⟨true, rfl, ?_, HC.out⟩
        have h1 := HT.out
        rw [HJ.out, HN.out, List.take_length, HL.out, List.take_length] at h1
        simp [h1]
  · have hne : ¬ xs = ys := fun h => hl (by rw [h])
    have HNE : Hid (¬ xs = ys) := hne
    obtain ⟨n, hn⟩ : ∃ n, n = xs.length := ⟨_, rfl⟩
    obtain ⟨m, hm⟩ : ∃ m, m = ys.length := ⟨_, rfl⟩
    rw [← hn, ← hm] at hl ⊢
    have hq : ((n : Int) != m) = true := by simp; omega
    clear ha hb hn hm hne hx hl
    go_enter Try.func22, Try.ntmps22
    go_wp2_with fail
    go_ret
    exact ⟨false, rfl, by simp [HNE.out], Chg.refl _ _⟩
end Go.Proofs.Ytdljloohgidbfaa
