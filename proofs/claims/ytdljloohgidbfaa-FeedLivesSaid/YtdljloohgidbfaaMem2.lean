/-
  An element of several cells is stored into a slice.
-/
import Derived.Test.YtdljloohgidbfaaMem
import Derived.Laws.CopyRow
import Derived.Deep.Upon
namespace Go.Mem
open Go Go.RowKit
variable {P : Program}

theorem run_store_row (w : World) (g o : Nat) (t e : TypeId) (cur : Array Value) (y : List Value) (hg : w.heap[g]? = some (.cells cur e (0, 0))) (hfit : o + y.length ≤ cur.size)
    (hi : (P.info? t).map (·.size) = some y.length) (h1 : ∀ u ∈ y, u.oneCell' = true) :
    (Instr.storeAt t (.pointer (some ⟨g, o, none⟩)) (.agg y.toArray)).run P w = .ok () (w.setRow g (cur.toList.take o ++ y ++ cur.toList.drop (o + y.length)).toArray) := by
  have hst := run_storeCells_at P g o e y 0 cur w hg (by simpa using hfit) h1
  simp only [Nat.add_zero] at hst
  cases hq : P.info? t with
  | none => simp [hq] at hi
  | some i =>
    have hs : i.size = y.length := by simpa [hq] using hi
    simp [Instr.storeAt, Instr.sureAddr, storeVar, sizeOf, typeInfo, hq, hs, Value.cells, hst]

theorem Sl.setE {w : World} {e sz g o n cap : Nat} {A B : List (List Value)} {x y : List Value} (h : Sl w e sz (.slice (some ⟨g, o, none⟩) n cap) (A ++ x :: B)) (hy : y.length = sz) (h1 : ∀ u ∈ y, u.oneCell' = true)
    (t : TypeId) (hi : (P.info? t).map (·.size) = some sz) :
    ∃ w', (Instr.storeAt t (.pointer (some ⟨g, o + A.length * sz, none⟩)) (.agg y.toArray)).run P w = .ok () w' ∧ Sl w' e sz (.slice (some ⟨g, o, none⟩) n cap) (A ++ y :: B) ∧ Chg (fun k => k = g) w w' := by
  rcases h.2 with ⟨hv, _⟩ | ⟨g', o', cap', cur, hv, hg, hnc, hcm, hfit, htake⟩
  · cases hv
  · cases hv
    have hA : ∀ x ∈ A, x.length = sz := fun z hz => h.1 z (List.mem_append.2 (.inl hz))
    have hB : ∀ x ∈ B, x.length = sz := fun z hz => h.1 z (List.mem_append.2 (.inr (List.mem_cons_of_mem _ hz)))
    have hx : x.length = sz := h.1 x (by simp)
    have hla : A.flatten.length = A.length * sz := flatten_length hA
    have hlb : B.flatten.length = B.length * sz := flatten_length hB
    have hlen : (A ++ x :: B).length = A.length + (B.length + 1) := by simp
    have hmul : (A.length + (B.length + 1)) * sz = A.length * sz + (B.length * sz + sz) := by rw [Nat.add_mul, Nat.add_mul, Nat.one_mul]
    have hcapm : (A.length + (B.length + 1)) * sz ≤ cap * sz := Nat.mul_le_mul_right _ (by omega)
    have hcur : cur.toList = cur.toList.take o ++ ((A.flatten ++ x ++ B.flatten) ++ cur.toList.drop (o + (A.length + (B.length + 1)) * sz)) := by
      have e1 : A.flatten ++ x ++ B.flatten = (A ++ x :: B).flatten := by simp
      rw [e1, ← htake, hlen]
      conv => lhs; rw [← List.take_append_drop o cur.toList]
      congr 1
      rw [← List.drop_drop, List.take_append_drop]
    have hpre : (cur.toList.take o).length = o := by rw [List.length_take, Array.length_toList]; omega
    have hrun := run_store_row (P := P) w g (o + A.length * sz) t e cur y hg (by omega) (by rw [hy]; exact hi) h1
    obtain ⟨pre, hpr⟩ : ∃ pre, pre = cur.toList.take o := ⟨_, rfl⟩
    obtain ⟨post, hpo⟩ : ∃ post, post = cur.toList.drop (o + (A.length + (B.length + 1)) * sz) := ⟨_, rfl⟩
    rw [← hpr, ← hpo] at hcur
    rw [← hpr] at hpre
    have hnew : cur.toList.take (o + A.length * sz) ++ y ++ cur.toList.drop (o + A.length * sz + y.length) = pre ++ ((A.flatten ++ y ++ B.flatten) ++ post) := by
      have e1 : cur.toList.take (o + A.length * sz) = pre ++ A.flatten := by
        rw [hcur, show pre ++ (A.flatten ++ x ++ B.flatten ++ post) = (pre ++ A.flatten) ++ (x ++ B.flatten ++ post) by simp]
        exact List.take_left' (by rw [List.length_append, hpre, hla])
      have e2 : cur.toList.drop (o + A.length * sz + y.length) = B.flatten ++ post := by
        rw [hcur, show pre ++ (A.flatten ++ x ++ B.flatten ++ post) = (pre ++ A.flatten ++ x) ++ (B.flatten ++ post) by simp]
        exact List.drop_left' (by rw [List.length_append, List.length_append, hpre, hla, hx, hy])
      rw [e1, e2]; simp only [List.append_assoc]
    refine ⟨_, hrun, ⟨fun z hz => ?_, .inr ⟨g, o, cap, _, by simp, setRow_heap w g cur _ e _ hg, by simpa using hnc, hcm, ?_, ?_⟩⟩, ⟨rfl, rfl, rfl, by simp, fun k _ hk => setRow_other w g k _ hk⟩⟩
    · rcases List.mem_append.1 hz with hz | hz
      · exact hA z hz
      · rcases List.mem_cons.1 hz with rfl | hz
        · exact hy
        · exact hB z hz
    · simp only [List.size_toArray, List.length_append, List.length_take, List.length_drop, Array.length_toList]
      omega
    · simp only [hnew]
      have e3 : (A.flatten ++ y ++ B.flatten) = (A ++ y :: B).flatten := by simp
      have e4 : (A ++ y :: B).flatten.length = (A ++ y :: B).length * sz := flatten_length fun z hz => by
        rcases List.mem_append.1 hz with hz | hz
        · exact hA z hz
        · rcases List.mem_cons.1 hz with rfl | hz
          · exact hy
          · exact hB z hz
      rw [List.drop_left' hpre, e3]
      exact List.take_left' e4

/-- a slice's cells, as what is appended -/
theorem Sl.news {w : World} {e sz : Nat} {v : Value} {ys : List (List Value)} (h : Sl w e sz v ys) (hpos : 0 < ys.length) : ∃ ad c, v = .slice (some ad) ys.length c ∧ ∀ j u, ys.flatten[j]? = some u → w.cell? (ad.add j) = some u := by
  rcases h.2 with ⟨rfl, rfl⟩ | ⟨g, o, cap, cur, rfl, hg, hnc, hcm, hfit, htake⟩
  · simp at hpos
  · refine ⟨⟨g, o, none⟩, cap, rfl, fun j u hu => ?_⟩
    rw [Addr.add_mid]
    rw [← htake, List.getElem?_take] at hu
    split at hu
    · rw [List.getElem?_drop] at hu
      simp only [World.cell?, hg]
      simpa using hu
    · cases hu

/-- APPEND OF A SLICE, of whatever length -/
theorem Sl.appendS (t ty : TypeId) {e : TypeId} {i : TypeInfo} {z : Value} {sz bytes : Nat} (ht : P.underlying t = some (.slice e)) (hi : P.info? e = some i) (hz : i.zero = some z)
    (hsize : i.size = sz) (hby : i.bytes = bytes) (hzs : z.cells.size = sz) {w : World}
    {v v' : Value} {xs ys : List (List Value)} (h : Sl w e sz v xs) (h' : Sl w e sz v' ys) (h1 : ∀ y ∈ ys, ∀ u ∈ y, u.oneCell' = true)
    (h63 : xs.length + ys.length ≤ maxLen) (hbytes : (xs.length + ys.length) * bytes ≤ 140737488355328) :
    ∃ v2 w', (Builtin.append_ #[t, t] ty #[v, v']).run P w = .ok v2 w' ∧ Sl w' e sz v2 (xs ++ ys) ∧ Chg (fun k => v.ownBlock = some k) w w' ∧
      (v2.ownBlock = v.ownBlock ∨ v2.ownBlock = some w.heap.size) := by
  by_cases hpos : 0 < ys.length
  · obtain ⟨ad, c, rfl, hnews⟩ := h'.news hpos
    obtain ⟨v2, w', k1, k2, k3, k4, _⟩ := Sl.append (P := P) t ty ht hi hz hsize hby hzs h ad c ys h'.1 hnews h1 hpos h63 hbytes
    exact ⟨v2, w', k1, k2, k3, k4⟩
  · obtain rfl : ys = [] := List.eq_nil_of_length_eq_zero (by omega)
    have hle : ∃ a n c, v = .slice a n c ∧ n ≤ c := by
      rcases h.2 with ⟨rfl, rfl⟩ | ⟨g, o, cap, cur, rfl, hg, hnc, _⟩
      · exact ⟨_, _, _, rfl, Nat.le_refl _⟩
      · exact ⟨_, _, _, rfl, hnc⟩
    obtain ⟨a, n, c, rfl, hnc⟩ := hle
    have hs : Src P i.size t v' 0 [] w := by
      rcases h'.2 with ⟨rfl, _⟩ | ⟨g, o, cap, cur, rfl, hg, _⟩
      · exact Src.ofNil w ht 0
      · exact Src.ofSlice w ht ⟨g, o, none⟩ 0 cap [] (by simp) (fun j u hj => by simp at hj) (fun u hu => by cases hu)
    exact ⟨_, w, run_append_nothing w t t ty e i ht hi a n c hnc v' hs, by rw [List.append_nil]; exact h, Chg.refl _ _, .inl rfl⟩
end Go.Mem
