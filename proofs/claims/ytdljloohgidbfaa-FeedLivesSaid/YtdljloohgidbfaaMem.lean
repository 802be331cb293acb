/-
  Memory: what has turned; slices of values of several cells, wherever they begin.
-/
import Derived.WalkKit
import Derived.Deep.MidRow
namespace Go.Mem
open Go Go.RowKit

/-- of what was there nothing has turned outside S -/
structure Chg (S : Nat → Prop) (w w' : World) : Prop where
  os : w'.os = w.os
  tape : w'.tape = w.tape
  output : w'.output = w.output
  size : w.heap.size ≤ w'.heap.size
  block : ∀ k, k < w.heap.size → ¬ S k → w'.heap[k]? = w.heap[k]?

theorem Chg.refl (S : Nat → Prop) (w : World) : Chg S w w := ⟨rfl, rfl, rfl, Nat.le_refl _, fun _ _ _ => rfl⟩
theorem Chg.mono {S T : Nat → Prop} {w w' : World} (h : Chg S w w') (hs : ∀ k, k < w.heap.size → S k → T k) : Chg T w w' :=
  ⟨h.os, h.tape, h.output, h.size, fun k hk ht => h.block k hk (fun s => ht (hs k hk s))⟩
theorem Chg.trans {S : Nat → Prop} {a b c : World} (h : Chg S a b) (k : Chg (fun i => S i ∨ a.heap.size ≤ i) b c) : Chg S a c :=
  ⟨k.os.trans h.os, k.tape.trans h.tape, k.output.trans h.output, Nat.le_trans h.size k.size, fun i hi hs =>
    (k.block i (Nat.lt_of_lt_of_le hi h.size) (fun o => by rcases o with o | o; exact hs o; omega)).trans (h.block i hi hs)⟩
theorem Chg.drew {S : Nat → Prop} {a b : World} (h : Chg S a b) : Chg S a b.drew := ⟨h.os, h.tape, h.output, h.size, h.block⟩
theorem Chg.alloc {S : Nat → Prop} {a b : World} (h : Chg S a b) (o : Obj) : Chg S a (b.alloc o) :=
  h.trans ⟨rfl, rfl, rfl, by simp, fun k hk _ => Below.heap_alloc _ _ _ hk⟩
theorem Chg.setCell {S : Nat → Prop} {a b : World} (h : Chg S a b) {p : Addr} (hp : S p.block ∨ a.heap.size ≤ p.block) (u : Value) : Chg S a (b.setCell p u) :=
  h.trans ⟨rfl, rfl, rfl, by simp [World.setCell], fun k _ hk => Below.heap_setCell _ _ _ _ (fun e => hk (by rw [e]; exact hp))⟩
theorem Chg.of_grown {w w' : World} {row : Option Nat} (h : w.grownBy w' row) : Chg (fun k => row = some k) w w' :=
  ⟨h.os, h.tape, h.output, h.size, fun k hk hs => h.block k hk (fun e => hs e.symm)⟩
theorem Chg.below {S : Nat → Prop} {w w' : World} (h : Chg S w w') {B : Nat} (hB : B ≤ w.heap.size) (hs : ∀ k, k < w.heap.size → S k → B ≤ k) : Below B w w' :=
  ⟨h.os, h.tape, h.output, h.size, fun k hk => h.block k (by omega) (fun s => by have := hs k (by omega) s; omega)⟩
theorem Chg.of_below {B : Nat} {w w' : World} (h : Below B w w') : Chg (fun k => B ≤ k) w w' :=
  ⟨h.os, h.tape, h.output, h.size, fun k _ hk => h.block k (by omega)⟩
theorem Chg.at {S : Nat → Prop} {w w' : World} (h : Chg S w w') {k : Nat} {o : Obj} (ho : w.heap[k]? = some o) (hs : ¬ S k) : w'.heap[k]? = some o :=
  (h.block k (Array.getElem?_eq_some_iff.1 ho).1 hs).trans ho
theorem lt_of_at {w : World} {k : Nat} {o : Obj} (ho : w.heap[k]? = some o) : k < w.heap.size := (Array.getElem?_eq_some_iff.1 ho).1

/-! ### slices -/
/-- v is a slice of xs, each of sz cells -/
def Sl (w : World) (e sz : Nat) (v : Value) (xs : List (List Value)) : Prop :=
  (∀ x ∈ xs, x.length = sz) ∧
  ((v = .slice none 0 0 ∧ xs = []) ∨
   ∃ (g o cap : Nat) (cur : Array Value), v = .slice (some ⟨g, o, none⟩) xs.length cap ∧ w.heap[g]? = some (.cells cur e (0, 0)) ∧ xs.length ≤ cap ∧ cap ≤ maxLen ∧ o + cap * sz ≤ cur.size ∧
     (cur.toList.drop o).take (xs.length * sz) = xs.flatten)

theorem flatten_length {sz : Nat} : ∀ {xs : List (List Value)}, (∀ x ∈ xs, x.length = sz) → xs.flatten.length = xs.length * sz
  | [], _ => by simp
  | x :: r, h => by
    rw [List.flatten_cons, List.length_append, h x (List.mem_cons_self ..), flatten_length (fun y hy => h y (List.mem_cons_of_mem _ hy)), List.length_cons, Nat.succ_mul, Nat.add_comm]

theorem Sl.nil (w : World) (e sz : Nat) : Sl w e sz (.slice none 0 0) [] := ⟨fun x h => (by cases h), .inl ⟨rfl, rfl⟩⟩

theorem Sl.lt {w : World} {e sz : Nat} {v : Value} {xs : List (List Value)} (h : Sl w e sz v xs) {k : Nat} (hk : v.ownBlock = some k) : k < w.heap.size := by
  rcases h.2 with ⟨rfl, _⟩ | ⟨g, o, cap, cur, rfl, hg, _⟩
  · simp [Value.ownBlock] at hk
  · simp [Value.ownBlock] at hk; subst hk; exact lt_of_at hg

theorem Sl.shape {w : World} {e sz : Nat} {v : Value} {xs : List (List Value)} (h : Sl w e sz v xs) : ∃ a cap, v = .slice a xs.length cap := by
  rcases h.2 with ⟨rfl, rfl⟩ | ⟨g, o, cap, cur, rfl, _⟩
  · exact ⟨_, _, rfl⟩
  · exact ⟨_, _, rfl⟩

/-- it stays a slice of them where its block is as it was -/
theorem Sl.keep {w w' : World} {e sz : Nat} {v : Value} {xs : List (List Value)} (h : Sl w e sz v xs) (hb : ∀ k, v.ownBlock = some k → w'.heap[k]? = w.heap[k]?) : Sl w' e sz v xs := by
  refine ⟨h.1, ?_⟩
  rcases h.2 with hn | ⟨g, o, cap, cur, rfl, hg, r⟩
  · exact .inl hn
  · exact .inr ⟨g, o, cap, cur, rfl, (hb g rfl).trans hg, r⟩
theorem Sl.chg {S : Nat → Prop} {w w' : World} {e sz : Nat} {v : Value} {xs : List (List Value)} (h : Sl w e sz v xs) (c : Chg S w w') (hs : ∀ k, v.ownBlock = some k → ¬ S k) : Sl w' e sz v xs :=
  h.keep fun k hk => c.block k (h.lt hk) (hs k hk)

/-- the cells of an element -/
theorem Sl.at {w : World} {e sz : Nat} {v : Value} {xs : List (List Value)} (h : Sl w e sz v xs) {i : Nat} {x : List Value} (hx : xs[i]? = some x) :
    ∃ g o cap, v = .slice (some ⟨g, o, none⟩) xs.length cap ∧ w.rangeAt g (o + i * sz) x := by
  have hi : i < xs.length := (List.getElem?_eq_some_iff.1 hx).1
  rcases h.2 with ⟨_, rfl⟩ | ⟨g, o, cap, cur, rfl, hg, hlc, hcm, hfit, htake⟩
  · simp at hi
  · refine ⟨g, o, cap, rfl, ?_⟩
    intro j u hu
    have hj : j < x.length := (List.getElem?_eq_some_iff.1 hu).1
    have hxl : x.length = sz := h.1 x (List.mem_of_getElem? hx)
    have key : xs.flatten[i * sz + j]? = some u := by
      have gen : ∀ (ys : List (List Value)) (n : Nat), (∀ y ∈ ys, y.length = sz) → ys[n]? = some x → ys.flatten[n * sz + j]? = some u := by
        intro ys
        induction ys with
        | nil => intro n _ hn; simp at hn
        | cons y r ih =>
          intro n hy hn
          have hyl := hy y (List.mem_cons_self ..)
          cases n with
          | zero =>
            simp at hn; subst hn
            rw [List.flatten_cons, Nat.zero_mul, Nat.zero_add, List.getElem?_append_left hj]; exact hu
          | succ n =>
            simp at hn
            rw [List.flatten_cons, List.getElem?_append_right (by rw [hyl, Nat.succ_mul]; omega), hyl, show (n + 1) * sz + j - sz = n * sz + j by rw [Nat.succ_mul]; omega]
            exact ih n (fun z hz => hy z (List.mem_cons_of_mem _ hz)) hn
      exact gen xs i h.1 hx
    rw [← htake, List.getElem?_take] at key
    split at key
    · rw [List.getElem?_drop] at key
      show w.cell? _ = _
      simp only [World.cell?, hg]
      rw [show o + i * sz + j = o + (i * sz + j) by omega]
      simpa using key
    · cases key

theorem getD_at {xs : List (List Value)} {i : Nat} (h : i < xs.length) : xs[i]? = some (xs.getD i []) := by
  rw [List.getD_eq_getElem?_getD, List.getElem?_eq_getElem h]; rfl

/-! ### append -/
section
variable {P : Program} (w : World)

theorem run_append_room (t ty e : TypeId) (i : TypeInfo) (ht : P.underlying t = some (.slice e)) (hi : P.info? e = some i)
    (g o sLen sCap : Nat) (cur : Array Value) (hg : w.heap[g]? = some (.cells cur e (0, 0)))
    (a : Addr) (m c : Nat) (news : List Value) (hl : news.length = m * i.size) (hnews : ∀ j u, news[j]? = some u → w.cell? (a.add j) = some u) (h1 : ∀ u ∈ news, u.oneCell' = true)
    (hroom : sLen + m ≤ sCap) (hfit : o + sLen * i.size + news.length ≤ cur.size) :
    (Builtin.append_ #[t, t] ty #[.slice (some ⟨g, o, none⟩) sLen sCap, .slice (some a) m c]).run P w =
      .ok (.slice (some ⟨g, o, none⟩) (sLen + m) sCap) (w.setRow g (cur.toList.take (o + sLen * i.size) ++ news ++ cur.toList.drop (o + sLen * i.size + news.length)).toArray) := by
  have hf := run_firstCells_some (P := P) w i.size m a m c news hl hnews
  have hst := run_storeCells_at P g (o + sLen * i.size) e news 0 cur w hg (by simpa using hfit) h1
  simp only [Nat.add_zero] at hst
  have hadd : (⟨g, o, none⟩ : Addr).add (sLen * i.size) = ⟨g, o + sLen * i.size, none⟩ := Addr.add_mid g o _
  simp [Builtin.append_, run_underlying ht, sizeOf, typeInfo, hi, Builtin.lenOf, hroom, hf, hadd, hst]

theorem flatten_append (xs ys : List (List Value)) : (xs ++ ys).flatten = xs.flatten ++ ys.flatten := by simp

theorem take_flatten {sz : Nat} {xs : List (List Value)} (h : ∀ x ∈ xs, x.length = sz) {l : List Value} (hl : ∃ r, l = xs.flatten ++ r) : l.take (xs.length * sz) = xs.flatten := by
  obtain ⟨r, rfl⟩ := hl
  rw [← flatten_length h]; exact List.take_left

variable {w}
/-- APPEND -/
theorem Sl.append (t ty : TypeId) {e : TypeId} {i : TypeInfo} {z : Value} {sz bytes : Nat} (ht : P.underlying t = some (.slice e)) (hi : P.info? e = some i) (hz : i.zero = some z)
    (hsize : i.size = sz) (hby : i.bytes = bytes) (hzs : z.cells.size = sz)
    {v : Value} {xs : List (List Value)} (h : Sl w e sz v xs) (ad : Addr) (c : Nat) (ys : List (List Value)) (hys : ∀ y ∈ ys, y.length = sz)
    (hnews : ∀ j u, ys.flatten[j]? = some u → w.cell? (ad.add j) = some u) (h1 : ∀ y ∈ ys, ∀ u ∈ y, u.oneCell' = true) (hpos : 0 < ys.length)
    (h63 : xs.length + ys.length ≤ maxLen) (hbytes : (xs.length + ys.length) * bytes ≤ 140737488355328) :
    ∃ v' w', (Builtin.append_ #[t, t] ty #[v, .slice (some ad) ys.length c]).run P w = .ok v' w' ∧ Sl w' e sz v' (xs ++ ys) ∧ Chg (fun k => v.ownBlock = some k) w w' ∧
      (v'.ownBlock = v.ownBlock ∨ v'.ownBlock = some w.heap.size) ∧ v'.ownBlock ≠ none := by
  subst hsize
  subst hby
  have hall : ∀ x ∈ xs ++ ys, x.length = i.size := fun x hx => by
    rcases List.mem_append.1 hx with hx | hx
    · exact h.1 x hx
    · exact hys x hx
  have hly : ys.flatten.length = ys.length * i.size := flatten_length hys
  have hlx : xs.flatten.length = xs.length * i.size := flatten_length h.1
  have h1' : ∀ u ∈ ys.flatten, u.oneCell' = true := fun u hu => by
    obtain ⟨y, hy, huy⟩ := List.mem_flatten.1 hu
    exact h1 y hy u huy
  have hlen : (xs ++ ys).length = xs.length + ys.length := List.length_append
  have grown : ∀ (old : Nat), old < xs.length + ys.length →
      Sl (w.drew.alloc (.cells (xs.flatten.toArray ++ ys.flatten.toArray ++ Builtin.zeroCells z.cells (grownCap w (xs.length + ys.length) old e - (xs.length + ys.length))) e)) e i.size
        (.slice (some ⟨w.heap.size, 0, none⟩) (xs.length + ys.length) (grownCap w (xs.length + ys.length) old e)) (xs ++ ys) := by
    intro old _
    have hge := grownCap_ge w (xs.length + ys.length) old e
    have hcm : grownCap w (xs.length + ys.length) old e ≤ maxLen := grownCap_le_maxLen w (xs.length + ys.length) old e h63
    refine ⟨hall, .inr ⟨w.heap.size, 0, _, _, by rw [hlen], heap_alloc_new w.drew _, by rw [hlen]; exact hge, hcm, ?_, ?_⟩⟩
    · simp only [Array.size_append, List.size_toArray, size_zeroCells, hzs, hlx, hly, ← Nat.add_mul, Nat.zero_add]
      exact Nat.mul_le_mul_right _ (by omega)
    · rw [List.drop_zero]
      refine take_flatten hall ⟨(Builtin.zeroCells z.cells (grownCap w (xs.length + ys.length) old e - (xs.length + ys.length))).toList, ?_⟩
      simp
  rcases h.2 with ⟨rfl, rfl⟩ | ⟨g, o, cap, cur, rfl, hg, hnc, hcm, hfit, htake⟩
  · have hr := run_append_nil (P := P) w t ty e i z ht hi hz ad ys.length c ys.flatten hly hnews hpos (by simp only [maxLen, List.length_nil] at h63; omega) (by simp only [List.length_nil, Nat.zero_add] at hbytes; omega)
    have hgr := grown 0 (by simp; omega)
    simp only [List.length_nil, Nat.zero_add, List.flatten_nil, List.nil_append, Array.empty_append] at hgr ⊢
    exact ⟨_, _, hr, hgr, ((Chg.refl _ _).drew).alloc _, .inr rfl, by simp [Value.ownBlock]⟩
  · by_cases hroom : xs.length + ys.length ≤ cap
    · have hmul : (xs.length + ys.length) * i.size ≤ cap * i.size := Nat.mul_le_mul_right _ hroom
      rw [Nat.add_mul] at hmul
      have hr := run_append_room (P := P) w t ty e i ht hi g o xs.length cap cur hg ad ys.length c ys.flatten hly hnews h1' hroom (by rw [hly]; omega)
      refine ⟨_, _, hr, ⟨hall, .inr ⟨g, o, cap, _, by rw [hlen], setRow_heap w g cur _ e _ hg, by rw [hlen]; exact hroom, hcm, ?_, ?_⟩⟩, ⟨rfl, rfl, rfl, by simp, fun k _ hk => setRow_other w g k _ (fun e => hk (by simp [Value.ownBlock, e]))⟩, .inl rfl, by simp [Value.ownBlock]⟩
      · simp only [List.size_toArray, List.length_append, List.length_take, List.length_drop, Array.length_toList]
        omega
      · have e1 : cur.toList.take (o + xs.length * i.size) = cur.toList.take o ++ xs.flatten := by
          rw [List.take_add, htake]
        have e2 : (cur.toList.take o).length = o := by rw [List.length_take, Array.length_toList]; omega
        simp only [e1, List.append_assoc]
        rw [List.drop_append_of_le_length (by omega), List.drop_of_length_le (by omega), List.nil_append]
        refine take_flatten hall ⟨cur.toList.drop (o + xs.length * i.size + ys.flatten.length), by simp⟩
    · have holds : ∀ j u, xs.flatten[j]? = some u → w.cell? ((⟨g, o, none⟩ : Addr).add j) = some u := by
        intro j u hu
        rw [Addr.add_mid]
        rw [← htake, List.getElem?_take] at hu
        split at hu
        · rw [List.getElem?_drop] at hu
          simp only [World.cell?, hg]
          simpa using hu
        · cases hu
      have hr := run_append_grow (P := P) w t ty e i z ht hi hz ⟨g, o, none⟩ xs.length cap xs.flatten hlx holds ad ys.length c ys.flatten hly hnews (by omega) (by simp only [maxLen] at h63; omega) (growslice_fits (by omega) hbytes)
      exact ⟨_, _, hr, grown cap (by omega), ((Chg.refl _ _).drew).alloc _, .inr rfl, by simp [Value.ownBlock]⟩
end

/-- a part of a slice -/
theorem Sl.sub {w : World} {e sz g o cap : Nat} {n : Nat} {xs : List (List Value)} (h : Sl w e sz (.slice (some ⟨g, o, none⟩) n cap) xs) {l hi m : Nat} (h1 : l ≤ hi) (h2 : hi ≤ xs.length) (h3 : hi ≤ m) (h4 : m ≤ cap) :
    Sl w e sz (.slice (some ⟨g, o + l * sz, none⟩) (hi - l) (m - l)) ((xs.drop l).take (hi - l)) := by
  rcases h.2 with ⟨hv, _⟩ | ⟨g', o', cap', cur, hv, hg, hnc, hcm, hfit, htake⟩
  · cases hv
  · cases hv
    have hlen : ((xs.drop l).take (hi - l)).length = hi - l := by rw [List.length_take, List.length_drop]; omega
    refine ⟨fun x hx => h.1 x (List.mem_of_mem_drop (List.mem_of_mem_take hx)), .inr ⟨g, o + l * sz, m - l, cur, by rw [hlen], hg, by rw [hlen]; omega, by omega, ?_, ?_⟩⟩
    · have : (l + (m - l)) * sz ≤ cap * sz := Nat.mul_le_mul_right _ (by omega)
      rw [Nat.add_mul] at this
      omega
    · rw [hlen]
      have e1 : ∀ (ys : List (List Value)) (k : Nat), (∀ y ∈ ys, y.length = sz) → (ys.drop k).flatten = ys.flatten.drop (k * sz) := by
        intro ys
        induction ys with
        | nil => intro k _; simp
        | cons y r ih =>
          intro k hy
          cases k with
          | zero => simp
          | succ k =>
            have hyl := hy y (List.mem_cons_self ..)
            rw [List.drop_succ_cons, ih k (fun z hz => hy z (List.mem_cons_of_mem _ hz)), List.flatten_cons, List.drop_append, List.drop_of_length_le (l := y) (by rw [hyl, Nat.succ_mul]; omega), List.nil_append, hyl, show (k + 1) * sz - sz = k * sz by rw [Nat.succ_mul]; omega]
      have e2 : ∀ (ys : List (List Value)) (k : Nat), (∀ y ∈ ys, y.length = sz) → (ys.take k).flatten = ys.flatten.take (k * sz) := by
        intro ys
        induction ys with
        | nil => intro k _; simp
        | cons y r ih =>
          intro k hy
          cases k with
          | zero => simp
          | succ k =>
            have hyl := hy y (List.mem_cons_self ..)
            rw [List.take_succ_cons, List.flatten_cons, ih k (fun z hz => hy z (List.mem_cons_of_mem _ hz)), List.flatten_cons, List.take_append, List.take_of_length_le (l := y) (by rw [hyl, Nat.succ_mul]; omega), hyl, show (k + 1) * sz - sz = k * sz by rw [Nat.succ_mul]; omega]
      rw [e2 _ _ (fun y hy => h.1 y (List.mem_of_mem_drop hy)), e1 _ _ h.1, ← htake, ← List.drop_drop]
      rw [List.drop_take, List.take_take]
      congr 1
      have : hi * sz ≤ xs.length * sz := Nat.mul_le_mul_right _ h2
      have e3 : (hi - l) * sz = hi * sz - l * sz := Nat.sub_mul ..
      omega

/-- what 'x[l:h:m]' makes of a slice -/
theorem Sl.sliced {w : World} {e sz : Nat} {a : Option Addr} {n cap : Nat} {xs : List (List Value)} (h : Sl w e sz (.slice a n cap) xs) {l hi m : Nat} (h1 : l ≤ hi) (h2 : hi ≤ xs.length) (h3 : hi ≤ m) (h4 : m ≤ cap) :
    Sl w e sz (Go.sliced a l hi m sz) ((xs.drop l).take (hi - l)) := by
  rcases h.2 with ⟨hv, rfl⟩ | ⟨g', o', cap', cur, hv, hg, hnc, hcm, hfit, htake⟩
  · cases hv
    obtain rfl : m = 0 := by omega
    obtain rfl : hi = 0 := by omega
    obtain rfl : l = 0 := by omega
    exact ⟨fun x hx => by simp at hx, .inl ⟨rfl, by simp⟩⟩
  · cases hv
    by_cases hml : m = l
    · have hhl : hi = l := by omega
      subst hml hhl
      have e1 : (xs.drop hi).take (hi - hi) = [] := by simp
      rw [e1]
      unfold Go.sliced
      rw [if_pos rfl, Nat.sub_self]
      refine ⟨fun x hx => (by cases hx), .inr ⟨g', o', 0, cur, rfl, hg, Nat.le_refl _, Nat.zero_le _, by omega, by simp⟩⟩
    · unfold Go.sliced
      rw [if_neg hml]
      have := h.sub (l := l) (hi := hi) (m := m) h1 h2 h3 h4
      have e1 : (some (⟨g', o', none⟩ : Addr)).map (·.add (l * sz)) = some ⟨g', o' + l * sz, none⟩ := by simp only [Option.map_some, Addr.add_mid]
      rw [e1]
      exact this
theorem sliced_block (a : Option Addr) (l h m s : Nat) : (Go.sliced a l h m s).ownBlock = (Value.slice a 0 0).ownBlock := by
  unfold Go.sliced
  cases a with
  | none => split <;> rfl
  | some a => split <;> (simp only [Option.map_some, Value.ownBlock]; try (unfold Addr.add; split <;> rfl))
/-- an element's cell -/
theorem Sl.el {w : World} {e sz : Nat} {g o n cap : Nat} {xs : List (List Value)} (h : Sl w e sz (.slice (some ⟨g, o, none⟩) n cap) xs) {i : Nat} (hi : i < xs.length) {j : Nat} {u : Value} (hu : (xs.getD i [])[j]? = some u) :
    w.cell? ⟨g, o + i * sz + j, none⟩ = some u := by
  obtain ⟨g', o', cap', hv, hr⟩ := h.at (getD_at hi)
  cases hv
  exact hr j u hu
/-- an element of one cell is stored -/
theorem flatten_set1 {u : Value} : ∀ {xs : List (List Value)} {i : Nat}, (∀ x ∈ xs, x.length = 1) → i < xs.length → (xs.set i [u]).flatten = xs.flatten.set i u
  | x :: r, 0, h, _ => by
    have hx := h x (List.mem_cons_self ..)
    match x, hx with
    | [a], _ => simp
  | x :: r, i + 1, h, hi => by
    have hx := h x (List.mem_cons_self ..)
    match x, hx with
    | [a], _ =>
      simp only [List.set_cons_succ, List.flatten_cons, List.singleton_append]
      rw [flatten_set1 (fun y hy => h y (List.mem_cons_of_mem _ hy)) (by simpa using hi)]
theorem Sl.set1 {w : World} {e g o n cap : Nat} {xs : List (List Value)} (h : Sl w e 1 (.slice (some ⟨g, o, none⟩) n cap) xs) {i : Nat} (hi : i < xs.length) (u : Value) :
    Sl (w.setCell ⟨g, o + i, none⟩ u) e 1 (.slice (some ⟨g, o, none⟩) n cap) (xs.set i [u]) := by
  rcases h.2 with ⟨hv, _⟩ | ⟨g', o', cap', cur, hv, hg, hnc, hcm, hfit, htake⟩
  · cases hv
  · cases hv
    refine ⟨fun x hx => ?_, .inr ⟨g, o, cap, cur.setIfInBounds (o + i) u, by rw [List.length_set], ?_, by rw [List.length_set]; exact hnc, hcm, by simpa using hfit, ?_⟩⟩
    · rcases List.mem_or_eq_of_mem_set hx with hx | rfl
      · exact h.1 x hx
      · rfl
    · simp only [World.setCell, Array.getElem?_modify, hg]
      simp
    · rw [List.length_set, flatten_set1 h.1 hi, ← htake]
      simp only [Array.toList_setIfInBounds, Nat.mul_one]
      apply List.ext_getElem?
      intro j
      rw [List.getElem?_set, List.getElem?_take, List.getElem?_drop, List.getElem?_set, List.length_take, List.length_drop, List.getElem?_take, List.getElem?_drop]
      have hc : o + xs.length ≤ cur.size := by omega
      by_cases hj : j < xs.length
      · by_cases hij : i = j
        · subst hij
          have h2 : o + i < cur.size := by omega
          simp [hj, h2]
          omega
        · simp [hj, hij]
      · have hij : ¬ i = j := by omega
        simp [hj, hij]
theorem Sl.set1_chg {S : Nat → Prop} {w : World} {g o i : Nat} (u : Value) (hS : S g) : Chg S w (w.setCell ⟨g, o + i, none⟩ u) := (Chg.refl S w).setCell (.inl hS) u
end Go.Mem
