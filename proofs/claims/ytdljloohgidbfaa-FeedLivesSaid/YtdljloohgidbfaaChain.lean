/-
  A region that draws its order, by a chain of effects: one equation an operation, whatever the order.
-/
import Derived.Test.YtdljloohgidbfaaInv
namespace Go.Drawn
open Go

variable {P : Program} {ops : Array Oper} {Q : Exit → Act → World → Prop}

/-- A[j] are operations that j waits for, itself or through others -/
def ancB (ops : Array Oper) (A : List (List Nat)) : Bool :=
  (List.range ops.size).all fun j => (A.getD j []).all fun i => match ops[j]? with
    | some o => o.after.any fun e => Region.binds .any e && decide (e.on < j) && (e.on == i || (A.getD e.on []).contains i)
    | none => false

theorem anc_listed {A : List (List Nat)} (hA : ancB ops A = true) {L : Array Bool} (hsh : Shut ops L) : ∀ (j i : Nat), j < ops.size → L.getD j false = true → i ∈ A.getD j [] → L.getD i false = true := by
  intro j
  induction j using Nat.strongRecOn with
  | _ j ih =>
    intro i hj hl hi
    have h1 := List.all_eq_true.1 (List.all_eq_true.1 hA j (List.mem_range.2 hj)) i hi
    rw [Array.getElem?_eq_getElem hj] at h1
    simp only at h1
    obtain ⟨e, he, hb⟩ := Array.any_eq_true'.1 h1
    simp only [Bool.and_eq_true, decide_eq_true_eq, Bool.or_eq_true, beq_iff_eq, List.contains_iff_mem] at hb
    have hle := hsh j ops[j] (Array.getElem?_eq_getElem hj) hl e he hb.1.1
    rcases hb.2 with rfl | hb2
    · exact hle
    · exact ih e.on hb.1.2 i (by omega) hle hb2

theorem anc_deps {A : List (List Nat)} (hA : ancB ops A = true) {L : Array Bool} (hsh : Shut ops L) {j : Nat} {o : Oper} (ho : ops[j]? = some o) (hd : ∀ e ∈ o.after, Region.binds .any e = true → L.getD e.on false = true) {i : Nat} (hi : i ∈ A.getD j []) : L.getD i false = true := by
  have hj : j < ops.size := (Array.getElem?_eq_some_iff.1 ho).1
  have h1 := List.all_eq_true.1 (List.all_eq_true.1 hA j (List.mem_range.2 hj)) i hi
  rw [ho] at h1
  simp only at h1
  obtain ⟨e, he, hb⟩ := Array.any_eq_true'.1 h1
  simp only [Bool.and_eq_true, decide_eq_true_eq, Bool.or_eq_true, beq_iff_eq, List.contains_iff_mem] at hb
  have hle := hd e he hb.1.1
  rcases hb.2 with rfl | hb2
  · exact hle
  · exact anc_listed hA hsh e.on i (by omega) hle hb2

/-- how many of the effects are listed -/
def cn (L : Array Bool) : List Nat → Nat
  | [] => 0
  | e :: r => if L.getD e false = true then cn L r + 1 else 0
theorem cn_le (L : Array Bool) : ∀ l, cn L l ≤ l.length
  | [] => Nat.le_refl _
  | e :: r => by unfold cn; split <;> simp [cn_le L r]
theorem cn_ge {L : Array Bool} : ∀ (l : List Nat) (k : Nat), k ≤ l.length → (∀ j e, j < k → l[j]? = some e → L.getD e false = true) → k ≤ cn L l
  | [], k, hk, _ => by simp at hk; omega
  | e :: r, 0, _, _ => Nat.zero_le _
  | e :: r, k + 1, hk, h => by
    unfold cn
    rw [if_pos (h 0 e (by omega) rfl)]
    have := cn_ge r k (by simpa using hk) (fun j e' hj he => h (j + 1) e' (by omega) (by simpa using he))
    omega
theorem cn_lt {L : Array Bool} : ∀ (l : List Nat) (k e : Nat), l[k]? = some e → L.getD e false = false → cn L l ≤ k
  | [], k, e, h, _ => by simp at h
  | x :: r, 0, e, h, hf => by
    simp at h; subst h
    unfold cn; rw [hf]; simp
  | x :: r, k + 1, e, h, hf => by
    unfold cn
    split
    · have := cn_lt r k e (by simpa using h) hf; omega
    · omega
theorem cn_congr {L L' : Array Bool} : ∀ (l : List Nat), (∀ e ∈ l, L'.getD e false = L.getD e false) → cn L' l = cn L l
  | [], _ => rfl
  | e :: r, h => by
    unfold cn
    rw [h e (List.mem_cons_self ..), cn_congr r (fun x hx => h x (List.mem_cons_of_mem _ hx))]

/-- what an operand holds at operation i -/
def lookT (ops : Array Oper) (A : List (List Nat)) (tm : Array Value) (V : List Value) (i t : Nat) : Value :=
  match (A.getD i []).find? (fun j => match ops[j]? with | some o => o.dst == some t | none => false) with
  | some j => V.getD j undef
  | none => tm.getD t undef
def lookE (ops : Array Oper) (A : List (List Nat)) (tm : Array Value) (V : List Value) (i : Nat) : Operand → Value
  | .tmp t => lookT ops A tm V i t
  | .const v => v
  | .global g => .pointer (some ⟨g, 0, none⟩)
  | .func f => .func (.func f) #[] #[]

/-- whoever writes what operation i looks at stands ahead of it, or behind it -/
def usesB (ops : Array Oper) (A : List (List Nat)) : Bool :=
  (List.range ops.size).all fun i => match ops[i]? with
    | some o => (o.op.operands.toList.all fun x => match x with
        | .tmp t => (List.range ops.size).all fun j => match ops[j]? with
            | some p => p.dst != some t || i == j || (A.getD i []).contains j || (A.getD j []).contains i
            | none => true
        | _ => true) && !(match o.op with | .select .. => true | _ => false) &&
        (match o.guard with
          | some (g, _) => (A.getD i []).contains g && ((ops[g]?).bind (·.dst)).isSome
          | none => true)
    | none => true

def wantC (V : List Value) (o : Oper) : Bool :=
  Region.wanted o (fun g => match V.getD g undef with | .bool b => some b | _ => none)

theorem look_eval {A : List (List Nat)} (hA : ancB ops A = true) (hu : usesB ops A = true) {a0 a : Act} {V : List Value} {L : Array Bool} (hsh : Shut ops L) (hfr : Fr ops a0 (fun i => V.getD i undef) L a) {i : Nat} {o : Oper} (ho : ops[i]? = some o) (hni : L.getD i false = false)
    (hd : ∀ e ∈ o.after, Region.binds .any e = true → L.getD e.on false = true) : execOp a.eval o = execOp (lookE ops A a0.tmps V i) o := by
  have hi : i < ops.size := (Array.getElem?_eq_some_iff.1 ho).1
  have h1 := List.all_eq_true.1 hu i (List.mem_range.2 hi)
  rw [ho] at h1
  simp only [Bool.and_eq_true] at h1
  refine execOp_congr o (fun cs b hc => by have := h1.1.2; rw [hc] at this; simp at this) fun x hx => ?_
  have h2 := List.all_eq_true.1 h1.1.1 x (by simpa using hx)
  cases x with
  | const v => rfl
  | global g => rfl
  | func f => rfl
  | tmp t =>
    show a.tmps.getD t undef = lookT ops A a0.tmps V i t
    unfold lookT
    have hg : ∀ v, a.tmps[t]? = v → a.tmps.getD t undef = v.getD undef := fun v hv => by rw [Array.getD_eq_getD_getElem?, hv]
    cases hf : (A.getD i []).find? (fun j => match ops[j]? with | some o => o.dst == some t | none => false) with
    | some j =>
      have hj1 := List.find?_some hf
      have hj2 := List.mem_of_find?_eq_some hf
      have hlj := anc_deps hA hsh ho hd hj2
      cases hoj : ops[j]? with
      | none => rw [hoj] at hj1; simp at hj1
      | some p =>
        rw [hoj] at hj1
        simp only [beq_iff_eq] at hj1
        rw [hg _ (hfr.put j p t hoj hj1 hlj)]; rfl
    | none =>
      have hn := List.find?_eq_none.1 hf
      rw [hg _ (hfr.other t fun j p hj hdj => ?_), Array.getD_eq_getD_getElem?]
      have hjs : j < ops.size := (Array.getElem?_eq_some_iff.1 hj).1
      have h3 := List.all_eq_true.1 h2 j (List.mem_range.2 hjs)
      rw [hj] at h3
      simp only [hdj, bne_self_eq_false, Bool.false_or, Bool.or_eq_true, beq_iff_eq, List.contains_iff_mem] at h3
      rcases h3 with (rfl | h3) | h3
      · exact hni
      · have := hn j h3
        rw [hj] at this
        simp [hdj] at this
      · cases hlj : L.getD j false with
        | false => rfl
        | true => rw [anc_listed hA hsh j i hjs hlj h3] at hni; cases hni

theorem look_want {A : List (List Nat)} (hA : ancB ops A = true) (hu : usesB ops A = true) {a0 a : Act} {V : List Value} {L : Array Bool} (hsh : Shut ops L) (hfr : Fr ops a0 (fun i => V.getD i undef) L a) {i : Nat} {o : Oper} (ho : ops[i]? = some o)
    (hd : ∀ e ∈ o.after, Region.binds .any e = true → L.getD e.on false = true) : Region.wanted o (yielded ops a.tmps) = wantC V o := by
  have hi : i < ops.size := (Array.getElem?_eq_some_iff.1 ho).1
  have h1 := List.all_eq_true.1 hu i (List.mem_range.2 hi)
  rw [ho] at h1
  simp only [Bool.and_eq_true] at h1
  unfold wantC Region.wanted
  cases hg : o.guard with
  | none => rfl
  | some gw =>
    obtain ⟨g, want⟩ := gw
    have h2 := h1.2
    rw [hg] at h2
    simp only [Bool.and_eq_true, List.contains_iff_mem] at h2
    have hlg := anc_deps hA hsh ho hd h2.1
    obtain ⟨d, hdg⟩ := Option.isSome_iff_exists.1 h2.2
    obtain ⟨p, hp, hpd⟩ := Option.bind_eq_some_iff.1 hdg
    have ht := hfr.put g p d hp hpd hlg
    simp only
    congr 1
    unfold yielded
    rw [hdg]
    simp only [ht, Option.bind_some]
    cases V.getD g undef <;> rfl

/-- the equation at operation i, from world k to world k' -/
def RunsAt (P : Program) (ops : Array Oper) (A : List (List Nat)) (tm : Array Value) (V : List Value) (i : Nat) (o : Oper) (w w' : World) : Prop :=
  if wantC V o = true then (execOp (lookE ops A tm V i) o).run P w = .ok (.value (V.getD i undef)) w' ∨ ((execOp (lookE ops A tm V i) o).run P w = .ok .skip w' ∧ V.getD i undef = undef) ∨
      (∃ f args w1, (execOp (lookE ops A tm V i) o).run P w = .ok (.enter f args) w1 ∧ Calls P f args w1 fun e w2 => e = .returned (V.getD i undef) ∧ w2 = w')
    else V.getD i undef = undef ∧ w' = w
theorem RunsAt.val {A : List (List Nat)} {tm : Array Value} {V : List Value} {i : Nat} {o : Oper} {w w' : World} (hw : wantC V o = true) (h : (execOp (lookE ops A tm V i) o).run P w = .ok (.value (V.getD i undef)) w') : RunsAt P ops A tm V i o w w' := by
  unfold RunsAt; rw [if_pos hw]; exact .inl h
theorem RunsAt.skip {A : List (List Nat)} {tm : Array Value} {V : List Value} {i : Nat} {o : Oper} {w w' : World} (hw : wantC V o = true) (h : (execOp (lookE ops A tm V i) o).run P w = .ok .skip w') (hv : V.getD i undef = undef) : RunsAt P ops A tm V i o w w' := by
  unfold RunsAt; rw [if_pos hw]; exact .inr (.inl ⟨h, hv⟩)
theorem RunsAt.call {A : List (List Nat)} {tm : Array Value} {V : List Value} {i : Nat} {o : Oper} {w w' w1 : World} {f : FuncId} {args : Array Value} (hw : wantC V o = true) (h : (execOp (lookE ops A tm V i) o).run P w = .ok (.enter f args) w1)
    (hc : Calls P f args w1 fun e w2 => e = .returned (V.getD i undef) ∧ w2 = w') : RunsAt P ops A tm V i o w w' := by
  unfold RunsAt; rw [if_pos hw]; exact .inr (.inr ⟨f, args, w1, h, hc⟩)
theorem RunsAt.no {A : List (List Nat)} {tm : Array Value} {V : List Value} {i : Nat} {o : Oper} {w : World} (hw : wantC V o = false) (hv : V.getD i undef = undef) : RunsAt P ops A tm V i o w w := by
  unfold RunsAt; rw [if_neg (by rw [hw]; simp)]; exact ⟨hv, rfl⟩

def AllAt (p : Nat → Prop) : List Nat → Prop
  | [] => True
  | k :: r => p k ∧ AllAt p r
theorem AllAt.get {p : Nat → Prop} : ∀ {l : List Nat}, AllAt p l → ∀ {k}, k ∈ l → p k
  | [], _, k, hk => by cases hk
  | x :: r, h, k, hk => by
    rcases List.mem_cons.1 hk with rfl | hk
    · exact h.1
    · exact AllAt.get h.2 hk
/-- all equations: of operation i at each of the worlds in which it may come up -/
def Runs (P : Program) (ops : Array Oper) (A : List (List Nat)) (tm : Array Value) (V : List Value) (W : Nat → World) (eff : List Nat) (ks : List (List Nat)) : Nat → List Oper → Prop
  | _, [] => True
  | i, o :: r => AllAt (fun k => RunsAt P ops A tm V i o (W k) (W (if eff.contains i then k + 1 else k))) (ks.getD i []) ∧ Runs P ops A tm V W eff ks (i + 1) r
theorem Runs.get {A : List (List Nat)} {tm : Array Value} {V : List Value} {W : Nat → World} {eff : List Nat} {ks : List (List Nat)} : ∀ (l : List Oper) (n : Nat), Runs P ops A tm V W eff ks n l → ∀ j o, l[j]? = some o →
    AllAt (fun k => RunsAt P ops A tm V (n + j) o (W k) (W (if eff.contains (n + j) then k + 1 else k))) (ks.getD (n + j) [])
  | [], _, _, j, o, h => by simp at h
  | x :: r, n, h, 0, o, ho => by simp at ho; subst ho; exact h.1
  | x :: r, n, h, j + 1, o, ho => by
    have := Runs.get r (n + 1) h.2 j o (by simpa using ho)
    rwa [show n + 1 + j = n + (j + 1) by omega] at this

/-- the effects are a chain; the worlds in which an operation may come up are among ks -/
def chainB (n : Nat) (A : List (List Nat)) (eff : List Nat) (ks : List (List Nat)) : Bool :=
  decide eff.Nodup && eff.all (fun e => decide (e < n)) &&
  (List.range eff.length).all (fun p => (List.range p).all fun q => (A.getD (eff.getD p 0) []).contains (eff.getD q 0)) &&
  (List.range n).all fun i => (List.range (eff.length + 1)).all fun k => (ks.getD i []).contains k ||
    (if eff.contains i then eff.idxOf i != k
     else (decide (k < eff.length) && (A.getD i []).contains (eff.getD k 0)) || (List.range k).any fun q => (A.getD (eff.getD q 0) []).contains i)

theorem wp_region_chain {id : Nat} {l : List Oper} {a0 : Act} {w : World} (A : List (List Nat)) (V : List Value) (W : Nat → World) (eff : List Nat) (ks : List (List Nat)) (hm : P.follows .mixedOrders = true)
    (hb : backB l.toArray = true) (hs : slotsB l.toArray a0.tmps.size = true) (hA : ancB l.toArray A = true) (hu : usesB l.toArray A = true) (hc : chainB l.length A eff ks = true)
    (h0 : W 0 = { w with drawn := w.drawn + 1 }) (hr : Runs P l.toArray A a0.tmps V W eff ks 0 l)
    (hQ : Q .normal (putAll (fun i => V.getD i undef) 0 l a0) (W eff.length)) :
    (Code.region id l.toArray true).wp P Q a0 w := by
  unfold chainB at hc
  simp only [Bool.and_eq_true, decide_eq_true_eq] at hc
  obtain ⟨⟨⟨hnd, hin⟩, hch⟩, hks⟩ := hc
  have heg : ∀ p, p < eff.length → eff[p]? = some (eff.getD p 0) := fun p hp => by rw [List.getD_eq_getElem?_getD, List.getElem?_eq_getElem hp]; rfl
  have hlt : ∀ p, p < eff.length → eff.getD p 0 < l.length := fun p hp => by
    have := List.all_eq_true.1 hin (eff.getD p 0) (List.mem_of_getElem? (heg p hp))
    simpa using this
  refine wp_region_inv (fun i => V.getD i undef) (fun L w' => w' = W (cn L eff)) hm hb hs ?_ ?_ ?_
  · intro L hL
    rw [← h0]
    congr 1
    cases eff with
    | nil => rfl
    | cons e r => unfold cn; rw [hL e]; simp
  · intro L w' hall hI
    have : cn L eff = eff.length := Nat.le_antisymm (cn_le _ _) (cn_ge _ _ (Nat.le_refl _) fun j e _ he => hall e (by
      have := List.all_eq_true.1 hin e (List.mem_of_getElem? he)
      simpa using this))
    rw [this] at hI
    rw [hI]; exact hQ
  · have key : ∀ (r : List Oper) (n : Nat), (∀ j o, r[j]? = some o → l[n + j]? = some o) → DoesAll P l.toArray Q a0 (fun i => V.getD i undef) (fun L w' => w' = W (cn L eff)) n r := by
      intro r
      induction r with
      | nil => intro _ _; trivial
      | cons o r ih =>
        intro n hn
        refine ⟨?_, ih (n + 1) fun j o' ho' => by have := hn (j + 1) o' (by simpa using ho'); rwa [show n + (j + 1) = n + 1 + j by omega] at this⟩
        have hol : l[n]? = some o := by have := hn 0 o (by simp); simpa using this
        have ho : l.toArray[n]? = some o := by simpa using hol
        have hnl : n < l.length := (List.getElem?_eq_some_iff.1 hol).1
        intro L a w' hL hsh hfr hI hf hf' hd K hK
        have hk0 : cn L eff ≤ eff.length := cn_le _ _
        have hnle : ∀ p, p < eff.length → n ∈ A.getD (eff.getD p 0) [] → L.getD (eff.getD p 0) false = false := fun p hp hmem => by
          cases hlp : L.getD (eff.getD p 0) false with
          | false => rfl
          | true => rw [anc_listed hA hsh _ n (by simpa using hlt p hp) hlp hmem] at hf; cases hf
        have hkin : cn L eff ∈ ks.getD n [] := by
          have h3 := List.all_eq_true.1 (List.all_eq_true.1 hks n (List.mem_range.2 hnl)) (cn L eff) (List.mem_range.2 (by omega))
          rw [Bool.or_eq_true] at h3
          rcases h3 with h3 | h3
          · simpa using h3
          · exfalso
            by_cases hme : eff.contains n = true
            · rw [if_pos hme] at h3
              have hmem : n ∈ eff := by simpa using hme
              have hp : eff.idxOf n < eff.length := List.idxOf_lt_length_of_mem hmem
              have hpe : eff[eff.idxOf n]? = some n := by rw [List.getElem?_eq_getElem hp, List.getElem_idxOf hp]
              have hge : eff.getD (eff.idxOf n) 0 = n := by rw [List.getD_eq_getElem?_getD, hpe]; rfl
              have e1 := cn_lt eff _ n hpe hf
              have e2 := cn_ge (L := L) eff (eff.idxOf n) (by omega) fun j e hj he => by
                have hjl : j < eff.length := by omega
                have h4 := List.all_eq_true.1 (List.all_eq_true.1 hch (eff.idxOf n) (List.mem_range.2 hp)) j (List.mem_range.2 hj)
                rw [hge] at h4
                have hej : eff.getD j 0 = e := by rw [List.getD_eq_getElem?_getD, he]; rfl
                rw [hej] at h4
                exact anc_deps hA hsh ho hd (by simpa using h4)
              have : eff.idxOf n = cn L eff := by omega
              rw [this] at h3
              simp at h3
            · rw [if_neg hme] at h3
              rw [Bool.or_eq_true] at h3
              rcases h3 with h3 | h3
              · simp only [Bool.and_eq_true, decide_eq_true_eq, List.contains_iff_mem] at h3
                have hll := anc_deps hA hsh ho hd h3.2
                have e2 := cn_ge (L := L) eff (cn L eff + 1) (by omega) fun j e hj he => by
                  by_cases hjc : j = cn L eff
                  · subst hjc
                    have hej : eff.getD (cn L eff) 0 = e := by rw [List.getD_eq_getElem?_getD, he]; rfl
                    rw [← hej]; exact hll
                  · cases hle : L.getD e false with
                    | true => rfl
                    | false => have := cn_lt eff j e he hle; omega
                omega
              · obtain ⟨q, hq, hqm⟩ := List.any_eq_true.1 h3
                have hq := List.mem_range.1 hq
                have hfq := hnle q (by omega) (by simpa using hqm)
                have := cn_lt eff q _ (heg q (by omega)) hfq
                omega
        have hrun := (Runs.get l 0 hr n o hol).get (by rw [Nat.zero_add]; exact hkin)
        rw [Nat.zero_add] at hrun
        have hI' : w' = W (cn L eff) := hI
        have hnext : cn (L.setIfInBounds n true) eff = if eff.contains n then cn L eff + 1 else cn L eff := by
          by_cases hme : eff.contains n = true
          · rw [if_pos hme]
            have hmem : n ∈ eff := by simpa using hme
            have hp : eff.idxOf n < eff.length := List.idxOf_lt_length_of_mem hmem
            have hpe : eff[eff.idxOf n]? = some n := by rw [List.getElem?_eq_getElem hp, List.getElem_idxOf hp]
            have hge : eff.getD (eff.idxOf n) 0 = n := by rw [List.getD_eq_getElem?_getD, hpe]; rfl
            have e1 := cn_lt eff _ n hpe hf
            have hprior : ∀ j e, j < eff.idxOf n → eff[j]? = some e → L.getD e false = true := fun j e hj he => by
              have h4 := List.all_eq_true.1 (List.all_eq_true.1 hch (eff.idxOf n) (List.mem_range.2 hp)) j (List.mem_range.2 hj)
              rw [hge] at h4
              have hej : eff.getD j 0 = e := by rw [List.getD_eq_getElem?_getD, he]; rfl
              rw [hej] at h4
              exact anc_deps hA hsh ho hd (by simpa using h4)
            have e2 := cn_ge (L := L) eff (eff.idxOf n) (by omega) hprior
            have hgs : ∀ x, (L.setIfInBounds n true).getD x false = if n = x then true else L.getD x false := fun x => getD_set (by rw [hL]; simpa using hnl)
            have f1 := cn_ge (L := L.setIfInBounds n true) eff (eff.idxOf n + 1) (by omega) fun j e hj he => by
              rw [hgs]
              split
              · rfl
              · rename_i hne
                by_cases hjn : j = eff.idxOf n
                · subst hjn; rw [hpe] at he; cases he; exact absurd rfl hne
                · exact hprior j e (by omega) he
            have f2 : cn (L.setIfInBounds n true) eff ≤ eff.idxOf n + 1 := by
              by_cases hlast : eff.idxOf n + 1 < eff.length
              · refine cn_lt eff _ _ (heg _ hlast) ?_
                have h4 := List.all_eq_true.1 (List.all_eq_true.1 hch (eff.idxOf n + 1) (List.mem_range.2 hlast)) (eff.idxOf n) (List.mem_range.2 (by omega))
                rw [hge] at h4
                rw [hgs, if_neg, hnle _ hlast (by simpa using h4)]
                intro hne
                have hx : eff[eff.idxOf n + 1]? = some n := by rw [heg _ hlast, ← hne]
                have := (List.getElem?_inj hlast hnd).1 (hx.trans hpe.symm)
                omega
              · have := cn_le (L.setIfInBounds n true) eff; omega
            omega
          · rw [if_neg hme]
            refine cn_congr eff fun e he => ?_
            have hne : ¬ n = e := fun h => hme (by rw [h]; simpa using he)
            rw [getD_set (by rw [hL]; simpa using hnl), if_neg hne]
        have hKn := hK (W (if eff.contains n then cn L eff + 1 else cn L eff)) (by
          show _ = W (cn (L.setIfInBounds n true) eff)
          rw [hnext])
        unfold RunsAt at hrun
        rw [look_want hA hu hsh hfr ho hd]
        cases hwc : wantC V o with
        | true =>
          rw [if_pos hwc] at hrun
          rw [if_pos rfl]
          unfold Oper.wp
          rw [look_eval hA hu hsh hfr ho hf hd, hI']
          rcases hrun with hrun | ⟨hrun, hv⟩ | ⟨f, args, w1, hrun, hcall⟩
          · rw [hrun, Oper.upon_value]
            exact hKn
          · rw [hrun, Oper.upon_skip]
            have hv' : (fun i => V.getD i undef) n = undef := hv
            rw [hv'] at hKn
            exact hKn
          · rw [hrun, Oper.upon_enter]
            refine hcall.mono ?_
            rintro e w2 ⟨rfl, rfl⟩
            exact hKn
        | false =>
          rw [if_neg (by rw [hwc]; simp)] at hrun
          rw [if_neg (by simp)]
          have hKn' := hKn
          rw [hrun.2, ← hI'] at hKn'
          have hv : (fun i => V.getD i undef) n = undef := hrun.1
          rw [hv] at hKn'
          exact hKn'
    exact key l 0 fun j o ho => by rw [Nat.zero_add]; exact ho
/-- the same of worlds of which not all is known -/
def RunsAtR (P : Program) (ops : Array Oper) (A : List (List Nat)) (tm : Array Value) (V : List Value) (i : Nat) (o : Oper) (R R' : World → Prop) : Prop :=
  if wantC V o = true then ∀ w, R w → (∃ w', (execOp (lookE ops A tm V i) o).run P w = .ok (.value (V.getD i undef)) w' ∧ R' w') ∨ (∃ w', (execOp (lookE ops A tm V i) o).run P w = .ok .skip w' ∧ V.getD i undef = undef ∧ R' w') ∨
      (∃ f args w1, (execOp (lookE ops A tm V i) o).run P w = .ok (.enter f args) w1 ∧ Calls P f args w1 fun e w2 => e = .returned (V.getD i undef) ∧ R' w2)
    else V.getD i undef = undef ∧ ∀ w, R w → R' w
theorem RunsAtR.val {A : List (List Nat)} {tm : Array Value} {V : List Value} {i : Nat} {o : Oper} {R : World → Prop} (hw : wantC V o = true) (h : ∀ w, R w → (execOp (lookE ops A tm V i) o).run P w = .ok (.value (V.getD i undef)) w) : RunsAtR P ops A tm V i o R R := by
  unfold RunsAtR; rw [if_pos hw]; exact fun w hR => .inl ⟨w, h w hR, hR⟩
theorem RunsAtR.pure {A : List (List Nat)} {tm : Array Value} {V : List Value} {i : Nat} {o : Oper} {R : World → Prop} (hw : wantC V o = true) (h : ∀ w, (execOp (lookE ops A tm V i) o).run P w = .ok (.value (V.getD i undef)) w) : RunsAtR P ops A tm V i o R R := .val hw fun w _ => h w
theorem RunsAtR.call {A : List (List Nat)} {tm : Array Value} {V : List Value} {i : Nat} {o : Oper} {R R' : World → Prop} {f : FuncId} {args : Array Value} (hw : wantC V o = true) (h : ∀ w, (execOp (lookE ops A tm V i) o).run P w = .ok (.enter f args) w)
    (hc : ∀ w, R w → Calls P f args w fun e w2 => e = .returned (V.getD i undef) ∧ R' w2) : RunsAtR P ops A tm V i o R R' := by
  unfold RunsAtR; rw [if_pos hw]; exact fun w hR => .inr (.inr ⟨f, args, w, h w, hc w hR⟩)
theorem RunsAtR.no {A : List (List Nat)} {tm : Array Value} {V : List Value} {i : Nat} {o : Oper} {R : World → Prop} (hw : wantC V o = false) (hv : V.getD i undef = undef) : RunsAtR P ops A tm V i o R R := by
  unfold RunsAtR; rw [if_neg (by rw [hw]; simp)]; exact ⟨hv, fun _ h => h⟩
def RunsR (P : Program) (ops : Array Oper) (A : List (List Nat)) (tm : Array Value) (V : List Value) (R : Nat → World → Prop) (eff : List Nat) (ks : List (List Nat)) : Nat → List Oper → Prop
  | _, [] => True
  | i, o :: r => AllAt (fun k => RunsAtR P ops A tm V i o (R k) (R (if eff.contains i then k + 1 else k))) (ks.getD i []) ∧ RunsR P ops A tm V R eff ks (i + 1) r
theorem RunsR.get {A : List (List Nat)} {tm : Array Value} {V : List Value} {R : Nat → World → Prop} {eff : List Nat} {ks : List (List Nat)} : ∀ (l : List Oper) (n : Nat), RunsR P ops A tm V R eff ks n l → ∀ j o, l[j]? = some o →
    AllAt (fun k => RunsAtR P ops A tm V (n + j) o (R k) (R (if eff.contains (n + j) then k + 1 else k))) (ks.getD (n + j) [])
  | [], _, _, j, o, h => by simp at h
  | x :: r, n, h, 0, o, ho => by simp at ho; subst ho; exact h.1
  | x :: r, n, h, j + 1, o, ho => by
    have := RunsR.get r (n + 1) h.2 j o (by simpa using ho)
    rwa [show n + 1 + j = n + (j + 1) by omega] at this

theorem wp_region_rel {id : Nat} {l : List Oper} {a0 : Act} {w : World} (A : List (List Nat)) (V : List Value) (R : Nat → World → Prop) (eff : List Nat) (ks : List (List Nat)) (hm : P.follows .mixedOrders = true)
    (hb : backB l.toArray = true) (hs : slotsB l.toArray a0.tmps.size = true) (hA : ancB l.toArray A = true) (hu : usesB l.toArray A = true) (hc : chainB l.length A eff ks = true)
    (h0 : R 0 { w with drawn := w.drawn + 1 }) (hr : RunsR P l.toArray A a0.tmps V R eff ks 0 l)
    (hQ : ∀ w', R eff.length w' → Q .normal (putAll (fun i => V.getD i undef) 0 l a0) w') :
    (Code.region id l.toArray true).wp P Q a0 w := by
  unfold chainB at hc
  simp only [Bool.and_eq_true, decide_eq_true_eq] at hc
  obtain ⟨⟨⟨hnd, hin⟩, hch⟩, hks⟩ := hc
  have heg : ∀ p, p < eff.length → eff[p]? = some (eff.getD p 0) := fun p hp => by rw [List.getD_eq_getElem?_getD, List.getElem?_eq_getElem hp]; rfl
  have hlt : ∀ p, p < eff.length → eff.getD p 0 < l.length := fun p hp => by
    have := List.all_eq_true.1 hin (eff.getD p 0) (List.mem_of_getElem? (heg p hp))
    simpa using this
  refine wp_region_inv (fun i => V.getD i undef) (fun L w' => R (cn L eff) w') hm hb hs ?_ ?_ ?_
  · intro L hL
    have hc0 : cn L eff = 0 := by
      cases eff with
      | nil => rfl
      | cons e r => unfold cn; rw [hL e]; simp
    show R (cn L eff) _
    rw [hc0]; exact h0
  · intro L w' hall hI
    have : cn L eff = eff.length := Nat.le_antisymm (cn_le _ _) (cn_ge _ _ (Nat.le_refl _) fun j e _ he => hall e (by
      have := List.all_eq_true.1 hin e (List.mem_of_getElem? he)
      simpa using this))
    have hI : R (cn L eff) w' := hI
    rw [this] at hI
    exact hQ w' hI
  · have key : ∀ (r : List Oper) (n : Nat), (∀ j o, r[j]? = some o → l[n + j]? = some o) → DoesAll P l.toArray Q a0 (fun i => V.getD i undef) (fun L w' => R (cn L eff) w') n r := by
      intro r
      induction r with
      | nil => intro _ _; trivial
      | cons o r ih =>
        intro n hn
        refine ⟨?_, ih (n + 1) fun j o' ho' => by have := hn (j + 1) o' (by simpa using ho'); rwa [show n + (j + 1) = n + 1 + j by omega] at this⟩
        have hol : l[n]? = some o := by have := hn 0 o (by simp); simpa using this
        have ho : l.toArray[n]? = some o := by simpa using hol
        have hnl : n < l.length := (List.getElem?_eq_some_iff.1 hol).1
        intro L a w' hL hsh hfr hI hf hf' hd K hK
        have hk0 : cn L eff ≤ eff.length := cn_le _ _
        have hnle : ∀ p, p < eff.length → n ∈ A.getD (eff.getD p 0) [] → L.getD (eff.getD p 0) false = false := fun p hp hmem => by
          cases hlp : L.getD (eff.getD p 0) false with
          | false => rfl
          | true => rw [anc_listed hA hsh _ n (by simpa using hlt p hp) hlp hmem] at hf; cases hf
        have hkin : cn L eff ∈ ks.getD n [] := by
          have h3 := List.all_eq_true.1 (List.all_eq_true.1 hks n (List.mem_range.2 hnl)) (cn L eff) (List.mem_range.2 (by omega))
          rw [Bool.or_eq_true] at h3
          rcases h3 with h3 | h3
          · simpa using h3
          · exfalso
            by_cases hme : eff.contains n = true
            · rw [if_pos hme] at h3
              have hmem : n ∈ eff := by simpa using hme
              have hp : eff.idxOf n < eff.length := List.idxOf_lt_length_of_mem hmem
              have hpe : eff[eff.idxOf n]? = some n := by rw [List.getElem?_eq_getElem hp, List.getElem_idxOf hp]
              have hge : eff.getD (eff.idxOf n) 0 = n := by rw [List.getD_eq_getElem?_getD, hpe]; rfl
              have e1 := cn_lt eff _ n hpe hf
              have e2 := cn_ge (L := L) eff (eff.idxOf n) (by omega) fun j e hj he => by
                have hjl : j < eff.length := by omega
                have h4 := List.all_eq_true.1 (List.all_eq_true.1 hch (eff.idxOf n) (List.mem_range.2 hp)) j (List.mem_range.2 hj)
                rw [hge] at h4
                have hej : eff.getD j 0 = e := by rw [List.getD_eq_getElem?_getD, he]; rfl
                rw [hej] at h4
                exact anc_deps hA hsh ho hd (by simpa using h4)
              have : eff.idxOf n = cn L eff := by omega
              rw [this] at h3
              simp at h3
            · rw [if_neg hme] at h3
              rw [Bool.or_eq_true] at h3
              rcases h3 with h3 | h3
              · simp only [Bool.and_eq_true, decide_eq_true_eq, List.contains_iff_mem] at h3
                have hll := anc_deps hA hsh ho hd h3.2
                have e2 := cn_ge (L := L) eff (cn L eff + 1) (by omega) fun j e hj he => by
                  by_cases hjc : j = cn L eff
                  · subst hjc
                    have hej : eff.getD (cn L eff) 0 = e := by rw [List.getD_eq_getElem?_getD, he]; rfl
                    rw [← hej]; exact hll
                  · cases hle : L.getD e false with
                    | true => rfl
                    | false => have := cn_lt eff j e he hle; omega
                omega
              · obtain ⟨q, hq, hqm⟩ := List.any_eq_true.1 h3
                have hq := List.mem_range.1 hq
                have hfq := hnle q (by omega) (by simpa using hqm)
                have := cn_lt eff q _ (heg q (by omega)) hfq
                omega
        have hrun := (RunsR.get l 0 hr n o hol).get (by rw [Nat.zero_add]; exact hkin)
        rw [Nat.zero_add] at hrun
        have hI' : R (cn L eff) w' := hI
        have hnext : cn (L.setIfInBounds n true) eff = if eff.contains n then cn L eff + 1 else cn L eff := by
          by_cases hme : eff.contains n = true
          · rw [if_pos hme]
            have hmem : n ∈ eff := by simpa using hme
            have hp : eff.idxOf n < eff.length := List.idxOf_lt_length_of_mem hmem
            have hpe : eff[eff.idxOf n]? = some n := by rw [List.getElem?_eq_getElem hp, List.getElem_idxOf hp]
            have hge : eff.getD (eff.idxOf n) 0 = n := by rw [List.getD_eq_getElem?_getD, hpe]; rfl
            have e1 := cn_lt eff _ n hpe hf
            have hprior : ∀ j e, j < eff.idxOf n → eff[j]? = some e → L.getD e false = true := fun j e hj he => by
              have h4 := List.all_eq_true.1 (List.all_eq_true.1 hch (eff.idxOf n) (List.mem_range.2 hp)) j (List.mem_range.2 hj)
              rw [hge] at h4
              have hej : eff.getD j 0 = e := by rw [List.getD_eq_getElem?_getD, he]; rfl
              rw [hej] at h4
              exact anc_deps hA hsh ho hd (by simpa using h4)
            have e2 := cn_ge (L := L) eff (eff.idxOf n) (by omega) hprior
            have hgs : ∀ x, (L.setIfInBounds n true).getD x false = if n = x then true else L.getD x false := fun x => getD_set (by rw [hL]; simpa using hnl)
            have f1 := cn_ge (L := L.setIfInBounds n true) eff (eff.idxOf n + 1) (by omega) fun j e hj he => by
              rw [hgs]
              split
              · rfl
              · rename_i hne
                by_cases hjn : j = eff.idxOf n
                · subst hjn; rw [hpe] at he; cases he; exact absurd rfl hne
                · exact hprior j e (by omega) he
            have f2 : cn (L.setIfInBounds n true) eff ≤ eff.idxOf n + 1 := by
              by_cases hlast : eff.idxOf n + 1 < eff.length
              · refine cn_lt eff _ _ (heg _ hlast) ?_
                have h4 := List.all_eq_true.1 (List.all_eq_true.1 hch (eff.idxOf n + 1) (List.mem_range.2 hlast)) (eff.idxOf n) (List.mem_range.2 (by omega))
                rw [hge] at h4
                rw [hgs, if_neg, hnle _ hlast (by simpa using h4)]
                intro hne
                have hx : eff[eff.idxOf n + 1]? = some n := by rw [heg _ hlast, ← hne]
                have := (List.getElem?_inj hlast hnd).1 (hx.trans hpe.symm)
                omega
              · have := cn_le (L.setIfInBounds n true) eff; omega
            omega
          · rw [if_neg hme]
            refine cn_congr eff fun e he => ?_
            have hne : ¬ n = e := fun h => hme (by rw [h]; simpa using he)
            rw [getD_set (by rw [hL]; simpa using hnl), if_neg hne]
        have hKn : ∀ w2, R (if eff.contains n then cn L eff + 1 else cn L eff) w2 → K (a.put o.dst ((fun i => V.getD i undef) n)) w2 := fun w2 h2 => hK w2 (by
          show R (cn (L.setIfInBounds n true) eff) w2
          rw [hnext]; exact h2)
        unfold RunsAtR at hrun
        rw [look_want hA hu hsh hfr ho hd]
        cases hwc : wantC V o with
        | true =>
          rw [if_pos hwc] at hrun
          rw [if_pos rfl]
          unfold Oper.wp
          rw [look_eval hA hu hsh hfr ho hf hd]
          rcases hrun w' hI' with ⟨w2, hrun, h2⟩ | ⟨w2, hrun, hv, h2⟩ | ⟨f, args, w1, hrun, hcall⟩
          · rw [hrun, Oper.upon_value]
            exact hKn w2 h2
          · rw [hrun, Oper.upon_skip]
            have hv' : (fun i => V.getD i undef) n = undef := hv
            rw [hv'] at hKn
            exact hKn w2 h2
          · rw [hrun, Oper.upon_enter]
            refine hcall.mono ?_
            rintro e w2 ⟨rfl, h2⟩
            exact hKn w2 h2
        | false =>
          rw [if_neg (by rw [hwc]; simp)] at hrun
          rw [if_neg (by simp)]
          have hKn' := hKn w' (hrun.2 w' hI')
          have hv : (fun i => V.getD i undef) n = undef := hrun.1
          rw [hv] at hKn'
          exact hKn'
    exact key l 0 fun j o ho => by rw [Nat.zero_add]; exact ho
end Go.Drawn
