/-
  A region that draws its order, by an invariant: one obligation an operation, whatever the order.
-/
import Derived.Orders
import Derived.RegionTactic
namespace Go.Drawn
open Go

variable {P : Program} {ops : Array Oper} {Q : Exit → Act → World → Prop}

/-- what is listed is listed behind all that it waits for -/
def Shut (ops : Array Oper) (L : Array Bool) : Prop :=
  ∀ j o, ops[j]? = some o → L.getD j false = true → ∀ e ∈ o.after, Region.binds .any e = true → L.getD e.on false = true

/-- the frame: what is listed has its value in its slot, all else is as it was -/
structure Fr (ops : Array Oper) (a0 : Act) (V : Nat → Value) (L : Array Bool) (a : Act) : Prop where
  defers : a.defers = a0.defers
  size : a.tmps.size = a0.tmps.size
  put : ∀ j o d, ops[j]? = some o → o.dst = some d → L.getD j false = true → a.tmps[d]? = some (V j)
  other : ∀ t : Nat, (∀ j o, ops[j]? = some o → o.dst = some t → L.getD j false = false) → a.tmps[t]? = a0.tmps[t]?

/-- the obligation at operation i -/
def Does (P : Program) (ops : Array Oper) (Q : Exit → Act → World → Prop) (a0 : Act) (V : Nat → Value) (I : Array Bool → World → Prop) (i : Nat) (o : Oper) : Prop :=
  ∀ (L : Array Bool) (a : Act) (w : World), L.size = ops.size → Shut ops L → Fr ops a0 V L a → I L w → L.getD i false = false → L.getD i true = false →
    (∀ e ∈ o.after, Region.binds .any e = true → L.getD e.on false = true) →
    ∀ K : Act → World → Prop, (∀ w', I (L.setIfInBounds i true) w' → K (a.put o.dst (V i)) w') →
      if Region.wanted o (yielded ops a.tmps) = true then Oper.wp P o a w K Q else K (a.put o.dst undef) w

def DoesAll (P : Program) (ops : Array Oper) (Q : Exit → Act → World → Prop) (a0 : Act) (V : Nat → Value) (I : Array Bool → World → Prop) : Nat → List Oper → Prop
  | _, [] => True
  | i, o :: r => Does P ops Q a0 V I i o ∧ DoesAll P ops Q a0 V I (i + 1) r

theorem doesAll_get {a0 : Act} {V : Nat → Value} {I : Array Bool → World → Prop} : ∀ (l : List Oper) (k : Nat), DoesAll P ops Q a0 V I k l → ∀ j o, l[j]? = some o → Does P ops Q a0 V I (k + j) o
  | [], _, _, j, o, h => by simp at h
  | x :: r, k, h, 0, o, ho => by
    simp at ho; subst ho; exact h.1
  | x :: r, k, h, j + 1, o, ho => by
    have := doesAll_get r (k + 1) h.2 j o (by simpa using ho)
    rwa [show k + 1 + j = k + (j + 1) by omega] at this

/-- all slots at once -/
def putAll (V : Nat → Value) : Nat → List Oper → Act → Act
  | _, [], a => a
  | i, o :: r, a => putAll V (i + 1) r (a.put o.dst (V i))

def unl (n : Nat) (L : Array Bool) : Nat := ((List.range n).filter fun i => !L.getD i false).length

theorem getD_set {L : Array Bool} {i j : Nat} (hi : i < L.size) : (L.setIfInBounds i true).getD j false = if i = j then true else L.getD j false := by
  by_cases h : i = j
  · subst h; simp [hi]
  · simp [h]

theorem unl_set {n i : Nat} {L : Array Bool} (hn : L.size = n) (hi : i < n) (hu : L.getD i false = false) : unl n (L.setIfInBounds i true) + 1 = unl n L := by
  unfold unl
  have key : ∀ l : List Nat, l.Nodup → i ∈ l → ((l.filter fun j => !(L.setIfInBounds i true).getD j false).length) + 1 = (l.filter fun j => !L.getD j false).length := by
    intro l
    induction l with
    | nil => intro _ h; cases h
    | cons x r ih =>
      intro hnd hmem
      rw [List.nodup_cons] at hnd
      by_cases hx : x = i
      · subst hx
        have e : (r.filter fun j => !(L.setIfInBounds x true).getD j false) = r.filter fun j => !L.getD j false := by
          apply List.filter_congr
          intro j hj
          have hne : ¬ x = j := fun e => hnd.1 (by rw [e]; exact hj)
          rw [getD_set (by omega), if_neg hne]
        rw [List.filter_cons, List.filter_cons, getD_set (by omega), if_pos rfl, hu, e]
        simp
      · have hr : i ∈ r := by
          rcases List.mem_cons.1 hmem with h | h
          · exact absurd h.symm hx
          · exact h
        have := ih hnd.2 hr
        have hne : ¬ i = x := fun e => hx e.symm
        rw [List.filter_cons, List.filter_cons, getD_set (by omega), if_neg hne]
        by_cases hb : (!L.getD x false) = true
        · rw [if_pos hb, if_pos hb]
          simp only [List.length_cons]; omega
        · rw [if_neg hb, if_neg hb]; exact this
  exact key _ List.nodup_range (List.mem_range.2 hi)

theorem all_of_unl {n : Nat} {L : Array Bool} (h : unl n L = 0) : ∀ i, i < n → L.getD i false = true := by
  intro i hi
  unfold unl at h
  have h1 : ((List.range n).filter fun i => !L.getD i false) = [] := List.eq_nil_of_length_eq_zero h
  have := List.filter_eq_nil_iff.1 h1 i (List.mem_range.2 hi)
  simpa using this

/-- every edge that binds leads backward -/
def backB (ops : Array Oper) : Bool := (List.range ops.size).all fun i => match ops[i]? with | some o => o.after.all fun e => !Region.binds .any e || decide (e.on < i) | none => true
/-- no slot is written twice, and each lies in the frame -/
def slotsB (ops : Array Oper) (n : Nat) : Bool := (ops.toList.filterMap (·.dst)).all (fun d => decide (d < n)) && decide (ops.toList.filterMap (·.dst)).Nodup

theorem back_spec (h : backB ops = true) {i : Nat} {o : Oper} (ho : ops[i]? = some o) : ∀ e ∈ o.after, Region.binds .any e = true → e.on < i := by
  have hi : i < ops.size := (Array.getElem?_eq_some_iff.1 ho).1
  have h1 := List.all_eq_true.1 h i (List.mem_range.2 hi)
  rw [ho] at h1
  simp only [Array.all_eq_true_iff_forall_mem, Bool.or_eq_true, Bool.not_eq_true', decide_eq_true_eq] at h1
  intro e he hb
  rcases h1 e he with h2 | h2
  · rw [hb] at h2; cases h2
  · exact h2

theorem slots_lt {n : Nat} (h : slotsB ops n = true) {i : Nat} {o : Oper} {d : Nat} (ho : ops[i]? = some o) (hd : o.dst = some d) : d < n := by
  unfold slotsB at h
  rw [Bool.and_eq_true] at h
  have h1 := List.all_eq_true.1 h.1 d (List.mem_filterMap.2 ⟨o, by
    have := Array.mem_of_getElem? ho
    exact Array.mem_toList_iff.2 this, hd⟩)
  simpa using h1

theorem nodup_filterMap_ne {α β : Type} (f : α → Option β) : ∀ (l : List α), (l.filterMap f).Nodup → ∀ (i j : Nat) (x y : α) (d : β), l[i]? = some x → l[j]? = some y → f x = some d → f y = some d → i = j
  | [], _, i, j, x, y, d, hi, _, _, _ => by simp at hi
  | a :: r, hn, i, j, x, y, d, hi, hj, hx, hy => by
    have hn' : (r.filterMap f).Nodup := by
      rw [List.filterMap_cons] at hn
      split at hn
      · exact hn
      · exact (List.nodup_cons.1 hn).2
    have hout : ∀ (k : Nat) (z : α), r[k]? = some z → f z = some d → f a = some d → False := by
      intro k z hk hz ha
      rw [List.filterMap_cons, ha] at hn
      exact (List.nodup_cons.1 hn).1 (List.mem_filterMap.2 ⟨z, List.mem_of_getElem? hk, hz⟩)
    cases i with
    | zero =>
      cases j with
      | zero => rfl
      | succ j => simp at hi hj; subst hi; exact (hout j y hj hy hx).elim
    | succ i =>
      cases j with
      | zero => simp at hi hj; subst hj; exact (hout i x hi hx hy).elim
      | succ j =>
        simp at hi hj
        rw [nodup_filterMap_ne f r hn' i j x y d hi hj hx hy]

theorem slots_ne {n : Nat} (h : slotsB ops n = true) {i j : Nat} {o o' : Oper} {d : Nat} (ho : ops[i]? = some o) (ho' : ops[j]? = some o') (hd : o.dst = some d) (hd' : o'.dst = some d) : i = j := by
  unfold slotsB at h
  rw [Bool.and_eq_true] at h
  exact nodup_filterMap_ne (·.dst) ops.toList (of_decide_eq_true h.2) i j o o' d (by simpa using ho) (by simpa using ho') hd hd'

theorem put_get {a : Act} {d t : Nat} {v : Value} : (a.put (some d) v).tmps[t]? = if d = t then (if d < a.tmps.size then some v else none) else a.tmps[t]? := by
  simp only [Act.put, Array.getElem?_setIfInBounds]

theorem Fr.step {a0 a : Act} {V : Nat → Value} {L : Array Bool} (hs : slotsB ops a0.tmps.size = true) (hL : L.size = ops.size) (h : Fr ops a0 V L a) {i : Nat} {o : Oper} (ho : ops[i]? = some o) :
    Fr ops a0 V (L.setIfInBounds i true) (a.put o.dst (V i)) := by
  have hi : i < ops.size := (Array.getElem?_eq_some_iff.1 ho).1
  cases hd : o.dst with
  | none =>
    refine ⟨h.defers, h.size, fun j o' d hj hd' hl => ?_, fun t ht => ?_⟩
    · rw [getD_set (by omega)] at hl
      by_cases e : i = j
      · subst e
        rw [ho] at hj; cases hj
        rw [hd] at hd'; cases hd'
      · rw [if_neg e] at hl
        exact h.put j o' d hj hd' hl
    · refine h.other t fun j o' hj hd' => ?_
      have := ht j o' hj hd'
      rw [getD_set (by omega)] at this
      by_cases e : i = j
      · rw [if_pos e] at this; cases this
      · rwa [if_neg e] at this
  | some d =>
    have hlt := slots_lt hs ho hd
    refine ⟨h.defers, by simp [Act.put, h.size], fun j o' d' hj hd' hl => ?_, fun t ht => ?_⟩
    · rw [put_get]
      by_cases e : i = j
      · subst e
        rw [ho] at hj; cases hj
        rw [hd] at hd'; cases hd'
        rw [if_pos rfl, if_pos (by rw [h.size]; exact hlt)]
      · rw [getD_set (by omega), if_neg e] at hl
        have hne : ¬ d = d' := fun e' => e (slots_ne hs ho hj hd (by rw [e']; exact hd'))
        rw [if_neg hne]
        exact h.put j o' d' hj hd' hl
    · rw [put_get]
      by_cases e : d = t
      · subst e
        have := ht i o ho hd
        rw [getD_set (by omega), if_pos rfl] at this
        cases this
      · rw [if_neg e]
        refine h.other t fun j o' hj hd' => ?_
        have := ht j o' hj hd'
        rw [getD_set (by omega)] at this
        by_cases e' : i = j
        · rw [if_pos e'] at this; cases this
        · rwa [if_neg e'] at this

theorem putAll_defers (V : Nat → Value) : ∀ (l : List Oper) (k : Nat) (a : Act), (putAll V k l a).defers = a.defers
  | [], _, _ => rfl
  | o :: r, k, a => (putAll_defers V r (k + 1) _).trans (by cases h : o.dst <;> rfl)
theorem putAll_size (V : Nat → Value) : ∀ (l : List Oper) (k : Nat) (a : Act), (putAll V k l a).tmps.size = a.tmps.size
  | [], _, _ => rfl
  | o :: r, k, a => (putAll_size V r (k + 1) _).trans (by cases h : o.dst <;> simp [Act.put])
theorem putAll_other (V : Nat → Value) (t : Nat) : ∀ (l : List Oper) (k : Nat) (a : Act), (∀ o ∈ l, o.dst ≠ some t) → (putAll V k l a).tmps[t]? = a.tmps[t]?
  | [], _, _, _ => rfl
  | o :: r, k, a, h => by
    rw [putAll, putAll_other V t r (k + 1) _ (fun o' ho' => h o' (List.mem_cons_of_mem _ ho'))]
    cases hd : o.dst with
    | none => rfl
    | some d =>
      have hne : ¬ d = t := fun e => h o (List.mem_cons_self ..) (by rw [hd, e])
      rw [put_get, if_neg hne]
theorem putAll_put (V : Nat → Value) (t : Nat) : ∀ (l : List Oper) (k : Nat) (a : Act) (j : Nat) (o : Oper), l[j]? = some o → o.dst = some t → t < a.tmps.size → (∀ j' o', l[j']? = some o' → o'.dst = some t → j' = j) →
    (putAll V k l a).tmps[t]? = some (V (k + j))
  | [], _, _, j, o, hj, _, _, _ => by simp at hj
  | x :: r, k, a, 0, o, hj, hd, hlt, huniq => by
    simp at hj; subst hj
    rw [putAll, putAll_other V t r (k + 1) _ (fun o' ho' hd' => by
      obtain ⟨n, hn⟩ := List.getElem?_of_mem ho'
      have := huniq (n + 1) o' (by simpa using hn) hd'
      omega), hd, put_get, if_pos rfl, if_pos hlt]
    rfl
  | x :: r, k, a, j + 1, o, hj, hd, hlt, huniq => by
    have := putAll_put V t r (k + 1) (a.put x.dst (V k)) j o (by simpa using hj) hd (by cases h : x.dst <;> simpa [Act.put] using hlt) (fun j' o' hj' hd' => by
      have := huniq (j' + 1) o' (by simpa using hj') hd'
      omega)
    rw [putAll, this]
    congr 2
    omega

theorem Fr.final {a0 a : Act} {V : Nat → Value} {L : Array Bool} (hs : slotsB ops a0.tmps.size = true) (h : Fr ops a0 V L a) (hall : ∀ i, i < ops.size → L.getD i false = true) : a = putAll V 0 ops.toList a0 := by
  have e1 : a.tmps = (putAll V 0 ops.toList a0).tmps := by
    apply Array.ext_getElem?
    intro t
    by_cases hw : ∃ (j : Nat) (o : Oper), ops[j]? = some o ∧ o.dst = some t
    · obtain ⟨j, o, hj, hd⟩ := hw
      have hji : j < ops.size := (Array.getElem?_eq_some_iff.1 hj).1
      rw [h.put j o t hj hd (hall j hji), putAll_put V t ops.toList 0 a0 j o (by simpa using hj) hd (slots_lt hs hj hd) (fun j' o' hj' hd' => slots_ne hs (by simpa using hj') hj hd' hd), Nat.zero_add]
    · rw [h.other t (fun (j : Nat) (o : Oper) hj hd => (hw ⟨j, o, hj, hd⟩).elim), putAll_other V t ops.toList 0 a0 (fun (o : Oper) ho hd => by
        obtain ⟨n, hn⟩ := List.getElem?_of_mem ho
        exact hw ⟨n, o, by simpa using hn, hd⟩)]
  have e2 : a.defers = (putAll V 0 ops.toList a0).defers := by rw [h.defers, putAll_defers]
  cases a
  simp only at e1 e2
  subst e1 e2
  rfl

theorem wpAny_inv {a0 : Act} {V : Nat → Value} {I : Array Bool → World → Prop} (hb : backB ops = true) (hs : slotsB ops a0.tmps.size = true) (hd : DoesAll P ops Q a0 V I 0 ops.toList)
    (hQ : ∀ (L : Array Bool) (w : World), (∀ i, i < ops.size → L.getD i false = true) → I L w → Q .normal (putAll V 0 ops.toList a0) w) :
    ∀ (f : Nat) (L : Array Bool) (a : Act) (w : World), unl ops.size L = f → L.size = ops.size → Shut ops L → Fr ops a0 V L a → I L w → wpAny P .any ops Q f L a w := by
  intro f
  induction f with
  | zero =>
    intro L a w hu hL hsh hfr hI
    have hall := all_of_unl hu
    refine ⟨?_, ?_⟩
    · cases hr : Region.ready .any ops L with
      | nil => rfl
      | cons x r =>
        have hm : x ∈ Region.ready .any ops L := by rw [hr]; exact List.mem_cons_self ..
        obtain ⟨h1, o, ho, _⟩ := mem_ready.1 hm
        have hx : x < ops.size := (Array.getElem?_eq_some_iff.1 ho).1
        have := hall x hx
        have hlt : x < L.size := by omega
        simp [hlt] at h1 this
        rw [h1] at this; cases this
    · rw [hfr.final hs hall]; exact hQ L w hall hI
  | succ f ih =>
    intro L a w hu hL hsh hfr hI
    have hsome : ∀ n, (∀ i, i < n → L.getD i false = true) ∨ ∃ i, i < n ∧ L.getD i false = false ∧ ∀ j, j < i → L.getD j false = true := by
      intro n
      induction n with
      | zero => exact .inl (fun i hi => absurd hi (Nat.not_lt_zero _))
      | succ n ihn =>
        rcases ihn with h | ⟨i, hi, h1, h2⟩
        · cases hn : L.getD n false with
          | true => exact .inl (fun i hi => by
              rcases Nat.lt_succ_iff_lt_or_eq.1 hi with h' | rfl
              · exact h i h'
              · exact hn)
          | false => exact .inr ⟨n, by omega, hn, h⟩
        · exact .inr ⟨i, by omega, h1, h2⟩
    refine ⟨fun hr => ?_, fun i hi => ?_⟩
    · exfalso
      rcases hsome ops.size with h | ⟨i, hi, h1, h2⟩
      · have : unl ops.size L = 0 := by
          unfold unl
          rw [List.length_eq_zero_iff, List.filter_eq_nil_iff]
          intro i hi
          rw [h i (List.mem_range.1 hi)]
          simp
        omega
      · have hmem : i ∈ Region.ready .any ops L := by
          refine mem_ready.2 ⟨?_, ops[i], Array.getElem?_eq_getElem hi, fun e he hbe => h2 _ (back_spec hb (Array.getElem?_eq_getElem hi) e he hbe)⟩
          have hlt : i < L.size := by omega
          simp [hlt] at h1 ⊢
          exact h1
        rw [hr] at hmem
        cases hmem
    · obtain ⟨h1, o, ho, hdeps⟩ := mem_ready.1 hi
      have hlt : i < ops.size := (Array.getElem?_eq_some_iff.1 ho).1
      have h1' : L.getD i false = false := by
        have hlt' : i < L.size := by omega
        simp [hlt'] at h1 ⊢
        exact h1
      have hD := doesAll_get ops.toList 0 hd i o (by simpa using ho)
      rw [Nat.zero_add] at hD
      refine wpOp_step ho fun K' hK => hD L a w hL hsh hfr hI h1' h1 hdeps K' fun w' hI' => hK _ _ (ih _ _ _ ?_ (by simp [hL]) ?_ (hfr.step hs hL ho) hI')
      · have := unl_set hL hlt h1'
        omega
      · intro j oj hj hl e he hbe
        rw [getD_set (by omega)] at hl ⊢
        by_cases hij : i = j
        · subst hij
          rw [ho] at hj; cases hj
          split
          · rfl
          · exact hdeps e he hbe
        · rw [if_neg hij] at hl
          split
          · rfl
          · exact hsh j oj hj hl e he hbe

theorem getD_rep (n i : Nat) : (Array.replicate n false).getD i false = false := by
  by_cases h : i < n <;> simp [h]

/-- THE RULE -/
theorem wp_region_inv {id : Nat} {l : List Oper} {a0 : Act} {w : World} (V : Nat → Value) (I : Array Bool → World → Prop) (hm : P.follows .mixedOrders = true)
    (hb : backB l.toArray = true) (hs : slotsB l.toArray a0.tmps.size = true)
    (h0 : ∀ L, (∀ i, L.getD i false = false) → I L { w with drawn := w.drawn + 1 })
    (hQ : ∀ (L : Array Bool) (w : World), (∀ i, i < l.length → L.getD i false = true) → I L w → Q .normal (putAll V 0 l a0) w)
    (hd : DoesAll P l.toArray Q a0 V I 0 l) :
    (Code.region id l.toArray true).wp P Q a0 w := by
  refine wp_region_any hm (wpAny_inv hb hs hd (fun L w hall hI => hQ L w (by simpa using hall) hI) _ _ _ _ ?_ (by simp) ?_ ?_ (h0 _ (fun i => getD_rep _ i)))
  · unfold unl
    rw [List.filter_eq_self.2 (fun i _ => by rw [getD_rep]; rfl)]
    simp
  · intro j o _ hl
    rw [getD_rep] at hl; cases hl
  · exact ⟨rfl, rfl, fun j o d _ _ hl => (by rw [getD_rep] at hl; cases hl), fun _ _ => rfl⟩

/-- what waits for something unlisted is unlisted -/
theorem Shut.not {L : Array Bool} (h : Shut ops L) {i j : Nat} (hw : (match ops[j]? with | some o => o.after.any fun e => Region.binds .any e && e.on == i | none => false) = true) (hi : L.getD i false = false) : L.getD j false = false := by
  cases hj : L.getD j false with
  | false => rfl
  | true =>
    exfalso
    split at hw
    · rename_i o ho
      obtain ⟨e, he, hb⟩ := Array.any_eq_true'.1 hw
      simp only [Bool.and_eq_true, beq_iff_eq] at hb
      have := h j o ho hj e he hb.1
      rw [hb.2, hi] at this; cases this
    · cases hw
/-- what something listed waits for is listed -/
theorem Shut.yes {L : Array Bool} (h : Shut ops L) {i j : Nat} (hw : (match ops[j]? with | some o => o.after.any fun e => Region.binds .any e && e.on == i | none => false) = true) (hj : L.getD j false = true) : L.getD i false = true := by
  cases hi : L.getD i false with
  | true => rfl
  | false => rw [h.not hw hi] at hj; cases hj

def noneB (ops : Array Oper) (t : Nat) : Bool := ops.all fun o => o.dst != some t
theorem Fr.old {a0 a : Act} {V : Nat → Value} {L : Array Bool} (h : Fr ops a0 V L a) {t : Nat} (hn : noneB ops t = true) {v : Value} (hv : a0.tmps[t]? = some v) : a.tmps[t]? = some v := by
  refine (h.other t fun j o hj hd => ?_).trans hv
  have := Array.all_eq_true_iff_forall_mem.1 hn o (Array.mem_of_getElem? hj)
  simp [hd] at this
theorem Fr.got {a0 a : Act} {V : Nat → Value} {L : Array Bool} (h : Fr ops a0 V L a) {j d : Nat} (hj : (ops[j]?).bind (·.dst) = some d) (hl : L.getD j false = true) {v : Value} (hv : V j = v) : a.tmps[d]? = some v := by
  obtain ⟨o, ho, hd⟩ := Option.bind_eq_some_iff.1 hj
  rw [← hv]
  exact h.put j o d ho hd hl
theorem dep_of {L : Array Bool} {o : Oper} (hdeps : ∀ e ∈ o.after, Region.binds .any e = true → L.getD e.on false = true) {j : Nat} (h : (o.after.any fun e => Region.binds .any e && e.on == j) = true) : L.getD j false = true := by
  obtain ⟨e, he, hb⟩ := Array.any_eq_true'.1 h
  simp only [Bool.and_eq_true, beq_iff_eq] at hb
  have := hdeps e he hb.1
  rwa [hb.2] at this
theorem set_ne {L : Array Bool} {i j : Nat} (h : i ≠ j) : (L.setIfInBounds i true).getD j false = L.getD j false := by simp [h]
theorem set_eq {L : Array Bool} {i n : Nat} (hL : L.size = n) (h : i < n) : (L.setIfInBounds i true).getD i false = true := by
  have : i < L.size := by omega
  simp [this]
end Go.Drawn
