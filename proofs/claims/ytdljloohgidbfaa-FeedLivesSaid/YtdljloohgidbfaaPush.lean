/-
  The contract of push: an event behind what a watcher has.
-/
import Derived.Test.YtdljloohgidbfaaFeedD
import Derived.Test.YtdljloohgidbfaaInv
import Derived.Test.YtdljloohgidbfaaOps
import Derived.Great.BuildSlice
namespace Go.Proofs.Ytdljloohgidbfaa
open Go Go.RowKit Go.Mem

theorem bs32 (a b v l : Int) (w : World) : (Instr.buildSlice 32 1 #[(0, .agg (itC a b v l).toArray)]).run Try.prog w = .ok (.slice (some ⟨w.heap.size, 0, none⟩) 1 1) (w.alloc (.cells (itC a b v l).toArray 40)) := by
  obtain ⟨ie, hi, hz, hs⟩ : ∃ ie, Try.prog.info? 40 = some ie ∧ ie.zero = some (.agg (itC 0 0 0 0).toArray) ∧ ie.size = 35 := by
    have h : (Try.prog.info? 40).map (fun i => (i.zero, i.size)) = some (some (.agg (itC 0 0 0 0).toArray), 35) := by kernel_rfl
    cases hq : Try.prog.info? 40 with
    | none => rw [hq] at h; cases h
    | some i0 => rw [hq] at h; simp at h; exact ⟨i0, rfl, h.1, h.2⟩
  refine run_buildSlice w 32 40 1 _ _ ie _ Try.underlying32 hi hz (by rw [hs]; decide) (by rw [hs]; decide) ?_
  rw [hs]
  kernel_rfl
theorem load38 (b : Nat) (a k v : Int) (w : World) (h : w.heap[b]? = some (.cells (evC a k v).toArray 38)) : (Instr.loadAt 38 (.pointer (some ⟨b, 0, none⟩))).run Try.prog w = .ok (.agg (evC a k v).toArray) w := by
  refine run_loadAt_mid w b 0 38 (evC a k v) _ ?_ Try.underlying38 rfl (by kernel_rfl)
  intro j u hj
  simp only [World.cell?, h]
  simpa using hj

/-- the worlds of a region that puts one item behind a row's -/
def ch (W0 W1 W2 W3 : World) (p q r : Bool) : World := if r then W3 else if q then W2 else if p then W1 else W0

/-- one item more -/
theorem more {w : World} {blk : Nat} {sv : Value} {items : List It} {lost : Nat} (h : RowAt w blk sv items lost) (i : It) (hn : items.length < 20) :
    ∃ v' w', (∀ ty, (Builtin.append_ #[32, 32] ty #[sv, .slice (some ⟨w.heap.size, 0, none⟩) 1 1]).run Try.prog (w.alloc (.cells i.cells.toArray 40)) = .ok v' w') ∧
      Sl w' 40 35 v' ((items ++ [i]).map It.cells) ∧ Chg (fun k => sv.ownBlock = some k) (w.alloc (.cells i.cells.toArray 40)) w' ∧ (v'.ownBlock = sv.ownBlock ∨ ∃ k, v'.ownBlock = some k ∧ w.heap.size ≤ k) ∧ sv.ownBlock ≠ some blk := by
  obtain ⟨ie, hi, hz, hs, hb⟩ : ∃ ie, Try.prog.info? 40 = some ie ∧ ie.zero = some (.agg (itC 0 0 0 0).toArray) ∧ ie.size = 35 ∧ ie.bytes = 56 := by
    have h : (Try.prog.info? 40).map (fun i => (i.zero, i.size, i.bytes)) = some (some (.agg (itC 0 0 0 0).toArray), 35, 56) := by kernel_rfl
    cases hq : Try.prog.info? 40 with
    | none => rw [hq] at h; cases h
    | some i0 => rw [hq] at h; simp at h; exact ⟨i0, rfl, h.1, h.2.1, h.2.2⟩
  have hsl : Sl (w.alloc (.cells i.cells.toArray 40)) 40 35 sv (items.map It.cells) := h.sl.chg ((Chg.refl (fun _ => False) w).alloc _) (fun _ _ h => h)
  have key : ∀ ty, ∃ v' w', (Builtin.append_ #[32, 32] ty #[sv, .slice (some ⟨w.heap.size, 0, none⟩) 1 1]).run Try.prog (w.alloc (.cells i.cells.toArray 40)) = .ok v' w' ∧ _ := fun ty =>
    Sl.append (P := Try.prog) 32 ty Try.underlying32 hi hz hs hb rfl hsl ⟨w.heap.size, 0, none⟩ 1 [i.cells] (fun y hy => by rw [List.mem_singleton.1 hy]; rfl)
      (fun j u hj => by
        rw [Addr.add_mid, Nat.zero_add]
        simp only [World.cell?, heap_alloc_new]
        simpa using hj)
      (fun y hy u hu => by
        rw [List.mem_singleton.1 hy] at hu
        exact (List.all_eq_true.1 (show (i.cells.all (·.oneCell')) = true from rfl)) u hu)
      (by simp) (by simp only [List.length_map, List.length_singleton]; unfold maxLen; omega) (by simp only [List.length_map, List.length_singleton]; omega)
  obtain ⟨v', w', hr, h1, h2, h3, _⟩ := key 32
  refine ⟨v', w', fun ty => ?_, by rw [List.map_append]; exact h1, h2, ?_, ?_⟩
  · rw [← hr]; rfl
  · rcases h3 with h3 | h3
    · exact .inl h3
    · exact .inr ⟨_, h3, by simp⟩
  · intro hb
    rcases h.sl.2 with ⟨hv, _⟩ | ⟨g, o, cap, cur, hv, hg, _⟩
    · rw [hv] at hb; simp [Value.ownBlock] at hb
    · rw [hv] at hb; simp [Value.ownBlock] at hb; subst hb
      rw [h.cell] at hg; cases hg

/-- what is known of a region that puts one item behind a row's, from world w on -/
structure Stage (w : World) (blk : Nat) (sa : Option Addr) (n sc : Nat) (items : List It) (lost : Nat) (i : It) (I E : Array Value) (eb : Nat) (va : Option Addr) (vc : Nat) (W0 W1 W2 W3 : World) : Prop where
  w0 : W0 = w.drew
  w1 : W1 = W0.alloc (.cells I 40)
  w3 : W3 = W2.setCell ⟨blk, 0, none⟩ (.slice va (n + 1) vc)
  run : ∀ ty, (Builtin.append_ #[32, 32] ty #[.slice sa n sc, .slice (some ⟨W0.heap.size, 0, none⟩) 1 1]).run Try.prog W1 = .ok (.slice va (n + 1) vc) W2
  cell : ∀ p q : Bool, (ch W0 W1 W2 W3 p q false).cell? ⟨blk, 0, none⟩ = some (.slice sa n sc) ∧ (ch W0 W1 W2 W3 p q false).cell? ⟨blk, 1, none⟩ = some (.int .u64 lost) ∧ (ch W0 W1 W2 W3 p q false).heap[eb]? = some (.cells E 38)
  free : W2.frozen? ⟨blk, 0, none⟩ = false
  row : RowAt W3 blk (.slice va (n + 1) vc) (items ++ [i]) lost
  chg : Chg (fun k => k = blk ∨ (Value.slice sa n sc).ownBlock = some k) w W3
  own : (Value.slice va (n + 1) vc).ownBlock = (Value.slice sa n sc).ownBlock ∨ ∃ k, (Value.slice va (n + 1) vc).ownBlock = some k ∧ w.heap.size ≤ k
  ev : W3.heap[eb]? = some (.cells E 38)

theorem stage {w : World} {blk : Nat} {sa : Option Addr} {n sc : Nat} {items : List It} {lost : Nat} (h : RowAt w blk (.slice sa n sc) items lost) (hlen : n = items.length) (hn : items.length < 20) (i : It) {I E : Array Value} (hI : I = i.cells.toArray) {eb : Nat} (he : w.heap[eb]? = some (.cells E 38)) :
    ∃ va vc W0 W1 W2 W3, Stage w blk sa n sc items lost i I E eb va vc W0 W1 W2 W3 := by
  have hrow1 : RowAt w.drew blk (.slice sa n sc) items lost := ⟨h.cell, h.sl⟩
  obtain ⟨v', W2, hrun, hsl2, hchg2, hblk2, hown⟩ := more hrow1 i (by omega)
  rw [← hI] at hrun hchg2
  obtain ⟨va, vc, hv'⟩ := hsl2.shape
  have hvl : ((items ++ [i]).map It.cells).length = n + 1 := by simp; omega
  rw [hvl] at hv'
  subst hv'
  have hb0 : w.drew.heap[blk]? = some (.cells #[.slice sa n sc, .int .u64 lost] 74) := hrow1.cell
  have hb1 : (w.drew.alloc (.cells I 40)).heap[blk]? = some (.cells #[.slice sa n sc, .int .u64 lost] 74) := (Below.heap_alloc _ _ _ (lt_of_at hb0)).trans hb0
  have hb2 : W2.heap[blk]? = some (.cells #[.slice sa n sc, .int .u64 lost] 74) := hchg2.at hb1 hown
  have he0 : w.drew.heap[eb]? = some (.cells E 38) := he
  have he1 : (w.drew.alloc (.cells I 40)).heap[eb]? = some (.cells E 38) := (Below.heap_alloc _ _ _ (lt_of_at he0)).trans he0
  have hoe : (Value.slice sa n sc).ownBlock ≠ some eb := fun hk => by
    rcases h.sl.2 with ⟨hv, _⟩ | ⟨g, o, cap, cur, hv, hg, _⟩
    · rw [hv] at hk; simp [Value.ownBlock] at hk
    · rw [hv] at hk; simp [Value.ownBlock] at hk; subst hk
      rw [he] at hg; cases hg
  have he2 : W2.heap[eb]? = some (.cells E 38) := hchg2.at he1 hoe
  have hne : eb ≠ blk := fun e => by subst e; rw [he0] at hb0; cases hb0
  refine ⟨va, vc, w.drew, w.drew.alloc (.cells I 40), W2, W2.setCell ⟨blk, 0, none⟩ (.slice va (n + 1) vc), rfl, rfl, rfl, hrun, ?_, by simp [World.frozen?, hb2], ⟨heap_setCell_same W2 blk 0 _ 74 _ hb2, ?_⟩, ?_, hblk2, (heap_setCell_other W2 ⟨blk, 0, none⟩ eb _ hne).trans he2⟩
  · intro p q
    cases p <;> cases q <;> refine ⟨?_, ?_, ?_⟩ <;> first | exact he0 | exact he1 | exact he2 | (simp only [ch, if_true, Bool.false_eq_true, if_false, World.cell?, hb0, hb1, hb2]; rfl)
  · refine hsl2.keep fun k hk => ?_
    refine heap_setCell_other W2 ⟨blk, 0, none⟩ k _ (fun e => ?_)
    rcases hsl2.2 with ⟨hv, _⟩ | ⟨g, o, cap, cur, hv, hg, _⟩
    · rw [hv] at hk; simp [Value.ownBlock] at hk
    · rw [hv] at hk; simp [Value.ownBlock] at hk
      subst hk e
      rw [hb2] at hg; cases hg
  · have c1 : Chg (fun k => k = blk ∨ (Value.slice sa n sc).ownBlock = some k) w (w.drew.alloc (.cells I 40)) := ((Chg.refl _ w).drew).alloc _
    have c2 := c1.trans (hchg2.mono (T := fun k => (k = blk ∨ (Value.slice sa n sc).ownBlock = some k) ∨ w.heap.size ≤ k) fun k _ hk => .inl (.inr hk))
    exact c2.setCell (.inl (.inl rfl)) _

theorem RowAt.own {w : World} {blk : Nat} {sv : Value} {items : List It} {lost : Nat} (h : RowAt w blk sv items lost) : sv.ownBlock ≠ some blk := by
  intro hb
  rcases h.sl.2 with ⟨hv, _⟩ | ⟨g, o, cap, cur, hv, hg, _⟩
  · rw [hv] at hb; simp [Value.ownBlock] at hb
  · rw [hv] at hb; simp [Value.ownBlock] at hb; subst hb
    rw [h.cell] at hg; cases hg
theorem RowAt.setLost {w : World} {blk : Nat} {sv : Value} {items : List It} {lost : Nat} (h : RowAt w blk sv items lost) (l : Nat) : RowAt (w.setCell ⟨blk, 1, none⟩ (.int .u64 l)) blk sv items l :=
  ⟨heap_setCell_same w blk 1 _ 74 _ h.cell, h.sl.keep fun k hk => heap_setCell_other w ⟨blk, 1, none⟩ k _ (fun e => h.own (by rw [hk]; exact congrArg some e))⟩

/-- what comes of a push -/
def Pushed (blk : Nat) (sv : Value) (w : World) (items : List It) (lost : Nat) (w' : World) : Prop :=
  ∃ v', RowAt w' blk v' items lost ∧ Chg (fun k => k = blk ∨ sv.ownBlock = some k) w w' ∧ (v'.ownBlock = sv.ownBlock ∨ ∃ k, v'.ownBlock = some k ∧ w.heap.size ≤ k)

set_option maxRecDepth 100000 in
set_option maxHeartbeats 4000000 in
theorem push_room (blk : Nat) (sa : Option Addr) (n sc : Nat) (items : List It) (e : Ev) (w : World) (h : RowAt w blk (.slice sa n sc) items 0) (hlen : n = items.length) (hn : n ≤ 15) :
    Calls Try.prog 27 #[.pointer (some ⟨blk, 0, none⟩), .agg e.cells.toArray] w fun x w' => x = .returned (.tuple #[]) ∧ Pushed blk (.slice sa n sc) w (items ++ [e.it]) 0 w' := by
  obtain ⟨E, hE⟩ : ∃ E, E = e.cells.toArray := ⟨_, rfl⟩
  obtain ⟨J, hJ⟩ : ∃ J, J = e.it.cells.toArray := ⟨_, rfl⟩
  have hld : ∀ (b : Nat) (w : World), w.heap[b]? = some (.cells E 38) → (Instr.loadAt 38 (.pointer (some ⟨b, 0, none⟩))).run Try.prog w = .ok (.agg E) w := fun b w hb => by rw [hE] at hb ⊢; exact load38 b _ _ _ w hb
  have hbd : ∀ w, (Instr.build 40 #[(0, .agg E)]).run Try.prog w = .ok (.agg J) w := fun w => by rw [hE, hJ]; exact build40 _ _ _ w
  have hbs : ∀ w, (Instr.buildSlice 32 1 #[(0, .agg J)]).run Try.prog w = .ok (.slice (some ⟨w.heap.size, 0, none⟩) 1 1) (w.alloc (.cells J 40)) := fun w => by rw [hJ]; exact bs32 _ _ _ _ w
  have hbl := lt_of_at h.cell
  have hrow1 : RowAt (w.alloc (.cells E 38)) blk (.slice sa n sc) items 0 := ⟨(Below.heap_alloc _ _ _ hbl).trans h.cell, h.sl.chg ((Chg.refl (fun _ => False) w).alloc _) (fun _ _ h => h)⟩
  have he0 : (w.alloc (.cells E 38)).heap[w.heap.size]? = some (.cells E 38) := heap_alloc_new w _
  have hc1 : w.cell? ⟨blk, 0, none⟩ = some (.slice sa n sc) := by simp [World.cell?, h.cell]
  have hc2 : w.cell? ⟨blk, 1, none⟩ = some (.int .u64 0) := by simp [World.cell?, h.cell]
  have hd1 : (w.alloc (.cells E 38)).cell? ⟨blk, 0, none⟩ = some (.slice sa n sc) := by rw [World.cell?_alloc_past _ _ _ hbl]; exact hc1
  have hd2 : (w.alloc (.cells E 38)).cell? ⟨blk, 1, none⟩ = some (.int .u64 0) := by rw [World.cell?_alloc_past _ _ _ hbl]; exact hc2
  have hw1 : IntKind.i64.wrap (16 - (n : Int)) = 16 - (n : Int) := IntWalk.i64_in _ ⟨by omega, by omega⟩
  obtain ⟨va, vc, W0, W1, W2, W3, st⟩ := stage hrow1 hlen (by omega) e.it hJ he0
  have HW0 : Hid (W0 = (w.alloc (.cells E 38)).drew) := st.w0
  have HW1 : Hid (W1 = W0.alloc (.cells J 40)) := st.w1
  have HW3 : Hid (W3 = W2.setCell ⟨blk, 0, none⟩ (.slice va (n + 1) vc)) := st.w3
  have hrun := st.run
  have hcell := st.cell
  have hfzz := st.free
  have HF : Hid (Pushed blk (.slice sa n sc) w (items ++ [e.it]) 0 W3) := ⟨_, st.row, ((Chg.refl _ w).alloc _).trans (st.chg.mono fun _ _ h => .inl h), st.own.imp id fun ⟨k, hk, hkl⟩ => ⟨k, hk, by simp at hkl; omega⟩⟩
  rw [← hE]
  clear st hc1 hc2 hrow1 h he0 hE hJ hlen
  go_enter Try.func27, Try.ntmps27
  go_wp2_with fail
  refine Go.Drawn.wp_region_inv (fun i => ([.pointer (some ⟨blk, 0, none⟩), .pointer (some ⟨blk, 0, none⟩), .pointer (some ⟨blk, 0, none⟩), .pointer (some ⟨blk, 0, none⟩), .slice sa n sc, .agg E, .agg J, .slice (some ⟨W0.heap.size, 0, none⟩) 1 1, .slice va (n + 1) vc, .pointer (some ⟨blk, 0, none⟩), .pointer (some ⟨blk, 0, none⟩), undef] : List Value).getD i undef) (fun L w' => w' = ch W0 W1 W2 W3 (L.getD 7 false) (L.getD 8 false) (L.getD 11 false)) (by kernel_rfl) (by kernel_rfl) (by kernel_rfl) ?_ ?_ ?_
  · intro L hL
    rw [hL, hL, hL]
    exact HW0.out.symm
  rotate_left
  · refine ⟨?_, ?_, ?_, ?_, ?_, ?_, ?_, ?_, ?_, ?_, ?_, ?_, trivial⟩
    · intro L a w' hL hsh hfr hI hu hu' hdeps K hK
      replace hI : w' = ch W0 W1 W2 W3 (L.getD 7 false) (L.getD 8 false) (L.getD 11 false) := hI
      have s0 := hfr.old (t := 0) (by kernel_rfl) (v := .pointer (some ⟨blk, 0, none⟩)) rfl
      have hK' := hK w' (by show w' = ch W0 W1 W2 W3 ((L.setIfInBounds 0 true).getD 7 false) ((L.setIfInBounds 0 true).getD 8 false) ((L.setIfInBounds 0 true).getD 11 false); rw [Go.Drawn.set_ne (by decide), Go.Drawn.set_ne (by decide), Go.Drawn.set_ne (by decide)]; exact hI)
      clear hL hsh hfr hI hu hu' hdeps hK
      simp only [Region.wanted, if_true]
      go_simp
      exact hK'
    · intro L a w' hL hsh hfr hI hu hu' hdeps K hK
      replace hI : w' = ch W0 W1 W2 W3 (L.getD 7 false) (L.getD 8 false) (L.getD 11 false) := hI
      have s0 := hfr.old (t := 0) (by kernel_rfl) (v := .pointer (some ⟨blk, 0, none⟩)) rfl
      have hK' := hK w' (by show w' = ch W0 W1 W2 W3 ((L.setIfInBounds 1 true).getD 7 false) ((L.setIfInBounds 1 true).getD 8 false) ((L.setIfInBounds 1 true).getD 11 false); rw [Go.Drawn.set_ne (by decide), Go.Drawn.set_ne (by decide), Go.Drawn.set_ne (by decide)]; exact hI)
      clear hL hsh hfr hI hu hu' hdeps hK
      simp only [Region.wanted, if_true]
      go_simp
      exact hK'
    · intro L a w' hL hsh hfr hI hu hu' hdeps K hK
      replace hI : w' = ch W0 W1 W2 W3 (L.getD 7 false) (L.getD 8 false) (L.getD 11 false) := hI
      have s48 := hfr.got (j := 1) (d := 48) (by kernel_rfl) (Go.Drawn.dep_of hdeps (by kernel_rfl)) (v := .pointer (some ⟨blk, 0, none⟩)) rfl
      have hK' := hK w' (by show w' = ch W0 W1 W2 W3 ((L.setIfInBounds 2 true).getD 7 false) ((L.setIfInBounds 2 true).getD 8 false) ((L.setIfInBounds 2 true).getD 11 false); rw [Go.Drawn.set_ne (by decide), Go.Drawn.set_ne (by decide), Go.Drawn.set_ne (by decide)]; exact hI)
      clear hL hsh hfr hI hu hu' hdeps hK
      simp only [Region.wanted, if_true]
      go_simp
      exact hK'
    · intro L a w' hL hsh hfr hI hu hu' hdeps K hK
      replace hI : w' = ch W0 W1 W2 W3 (L.getD 7 false) (L.getD 8 false) (L.getD 11 false) := hI
      have s49 := hfr.got (j := 2) (d := 49) (by kernel_rfl) (Go.Drawn.dep_of hdeps (by kernel_rfl)) (v := .pointer (some ⟨blk, 0, none⟩)) rfl
      have hK' := hK w' (by show w' = ch W0 W1 W2 W3 ((L.setIfInBounds 3 true).getD 7 false) ((L.setIfInBounds 3 true).getD 8 false) ((L.setIfInBounds 3 true).getD 11 false); rw [Go.Drawn.set_ne (by decide), Go.Drawn.set_ne (by decide), Go.Drawn.set_ne (by decide)]; exact hI)
      clear hL hsh hfr hI hu hu' hdeps hK
      simp only [Region.wanted, if_true]
      go_simp
      exact hK'
    · intro L a w' hL hsh hfr hI hu hu' hdeps K hK
      replace hI : w' = ch W0 W1 W2 W3 (L.getD 7 false) (L.getD 8 false) (L.getD 11 false) := hI
      have hN8 := hsh.not (i := 4) (j := 8) (by kernel_rfl) hu
      have hN11 := hsh.not (i := 8) (j := 11) (by kernel_rfl) hN8
      have hcc := hcell (L.getD 7 false) (L.getD 8 false)
      have hI2 := hI
      rw [hN11] at hI2
      rw [← hI2] at hcc
      obtain ⟨hc0, hc1, hc3⟩ := hcc
      have s50 := hfr.got (j := 3) (d := 50) (by kernel_rfl) (Go.Drawn.dep_of hdeps (by kernel_rfl)) (v := .pointer (some ⟨blk, 0, none⟩)) rfl
      have hK' := hK w' (by show w' = ch W0 W1 W2 W3 ((L.setIfInBounds 4 true).getD 7 false) ((L.setIfInBounds 4 true).getD 8 false) ((L.setIfInBounds 4 true).getD 11 false); rw [Go.Drawn.set_ne (by decide), Go.Drawn.set_ne (by decide), Go.Drawn.set_ne (by decide)]; exact hI)
      clear hL hsh hfr hI hu hu' hdeps hK hI2
      simp only [Region.wanted, if_true]
      go_simp
      exact hK'
    · intro L a w' hL hsh hfr hI hu hu' hdeps K hK
      replace hI : w' = ch W0 W1 W2 W3 (L.getD 7 false) (L.getD 8 false) (L.getD 11 false) := hI
      have hN6 := hsh.not (i := 5) (j := 6) (by kernel_rfl) hu
      have hN7 := hsh.not (i := 6) (j := 7) (by kernel_rfl) hN6
      have hN8 := hsh.not (i := 7) (j := 8) (by kernel_rfl) hN7
      have hN11 := hsh.not (i := 8) (j := 11) (by kernel_rfl) hN8
      have hcc := hcell (L.getD 7 false) (L.getD 8 false)
      have hI2 := hI
      rw [hN11] at hI2
      rw [← hI2] at hcc
      have hlw := hld w.heap.size w' hcc.2.2
      have s3 := hfr.old (t := 3) (by kernel_rfl) (v := .pointer (some ⟨w.heap.size, 0, none⟩)) rfl
      have hK' := hK w' (by show w' = ch W0 W1 W2 W3 ((L.setIfInBounds 5 true).getD 7 false) ((L.setIfInBounds 5 true).getD 8 false) ((L.setIfInBounds 5 true).getD 11 false); rw [Go.Drawn.set_ne (by decide), Go.Drawn.set_ne (by decide), Go.Drawn.set_ne (by decide)]; exact hI)
      clear hL hsh hfr hI hu hu' hdeps hK hI2 hcc
      simp only [Region.wanted, if_true]
      exact Go.Ops.wp_load rfl (by rw [Go.Ops.ev s3]; exact hlw) hK'
    · intro L a w' hL hsh hfr hI hu hu' hdeps K hK
      replace hI : w' = ch W0 W1 W2 W3 (L.getD 7 false) (L.getD 8 false) (L.getD 11 false) := hI
      have s52 := hfr.got (j := 5) (d := 52) (by kernel_rfl) (Go.Drawn.dep_of hdeps (by kernel_rfl)) (v := .agg E) rfl
      have hK' := hK w' (by show w' = ch W0 W1 W2 W3 ((L.setIfInBounds 6 true).getD 7 false) ((L.setIfInBounds 6 true).getD 8 false) ((L.setIfInBounds 6 true).getD 11 false); rw [Go.Drawn.set_ne (by decide), Go.Drawn.set_ne (by decide), Go.Drawn.set_ne (by decide)]; exact hI)
      clear hL hsh hfr hI hu hu' hdeps hK
      simp only [Region.wanted, if_true]
      exact Go.Ops.wp_build rfl (by simp only [List.map_toArray, List.map_cons, List.map_nil, Go.Ops.ev s52]; exact hbd w') hK'
    · intro L a w' hL hsh hfr hI hu hu' hdeps K hK
      replace hI : w' = ch W0 W1 W2 W3 (L.getD 7 false) (L.getD 8 false) (L.getD 11 false) := hI
      have hN8 := hsh.not (i := 7) (j := 8) (by kernel_rfl) hu
      have hN11 := hsh.not (i := 8) (j := 11) (by kernel_rfl) hN8
      have s53 := hfr.got (j := 6) (d := 53) (by kernel_rfl) (Go.Drawn.dep_of hdeps (by kernel_rfl)) (v := .agg J) rfl
      rw [hu, hN8, hN11] at hI
      have hI2 : w' = W0 := hI
      have hK' := hK W1 (by show W1 = ch W0 W1 W2 W3 ((L.setIfInBounds 7 true).getD 7 false) ((L.setIfInBounds 7 true).getD 8 false) ((L.setIfInBounds 7 true).getD 11 false); rw [Go.Drawn.set_eq hL (by decide), Go.Drawn.set_ne (by decide), Go.Drawn.set_ne (by decide), hN8, hN11]; rfl)
      clear hL hsh hfr hI hu hu' hdeps hK
      simp only [Region.wanted, if_true]
      have hbw := hbs W0
      rw [← HW1.out] at hbw
      exact Go.Ops.wp_buildSlice rfl (by simp only [List.map_toArray, List.map_cons, List.map_nil, Go.Ops.ev s53]; rw [hI2]; exact hbw) hK'
    · intro L a w' hL hsh hfr hI hu hu' hdeps K hK
      replace hI : w' = ch W0 W1 W2 W3 (L.getD 7 false) (L.getD 8 false) (L.getD 11 false) := hI
      have hN11 := hsh.not (i := 8) (j := 11) (by kernel_rfl) hu
      have s51 := hfr.got (j := 4) (d := 51) (by kernel_rfl) (Go.Drawn.dep_of hdeps (by kernel_rfl)) (v := .slice sa n sc) rfl
      have s54 := hfr.got (j := 7) (d := 54) (by kernel_rfl) (Go.Drawn.dep_of hdeps (by kernel_rfl)) (v := .slice (some ⟨W0.heap.size, 0, none⟩) 1 1) rfl
      have hd7 := Go.Drawn.dep_of hdeps (j := 7) (by kernel_rfl)
      rw [hd7, hu, hN11] at hI
      have hI2 : w' = W1 := hI
      have hK' := hK W2 (by show W2 = ch W0 W1 W2 W3 ((L.setIfInBounds 8 true).getD 7 false) ((L.setIfInBounds 8 true).getD 8 false) ((L.setIfInBounds 8 true).getD 11 false); rw [Go.Drawn.set_ne (by decide), Go.Drawn.set_eq hL (by decide), Go.Drawn.set_ne (by decide), hd7, hN11]; rfl)
      clear hL hsh hfr hI hu hu' hdeps hK hd7
      simp only [Region.wanted, if_true]
      have hap := hrun 32
      exact Go.Ops.wp_append rfl (by rw [Go.Ops.ev s51, Go.Ops.ev s54, hI2]; exact hap) hK'
    · intro L a w' hL hsh hfr hI hu hu' hdeps K hK
      replace hI : w' = ch W0 W1 W2 W3 (L.getD 7 false) (L.getD 8 false) (L.getD 11 false) := hI
      have s47 := hfr.got (j := 0) (d := 47) (by kernel_rfl) (Go.Drawn.dep_of hdeps (by kernel_rfl)) (v := .pointer (some ⟨blk, 0, none⟩)) rfl
      have hK' := hK w' (by show w' = ch W0 W1 W2 W3 ((L.setIfInBounds 9 true).getD 7 false) ((L.setIfInBounds 9 true).getD 8 false) ((L.setIfInBounds 9 true).getD 11 false); rw [Go.Drawn.set_ne (by decide), Go.Drawn.set_ne (by decide), Go.Drawn.set_ne (by decide)]; exact hI)
      clear hL hsh hfr hI hu hu' hdeps hK
      simp only [Region.wanted, if_true]
      go_simp
      exact hK'
    · intro L a w' hL hsh hfr hI hu hu' hdeps K hK
      replace hI : w' = ch W0 W1 W2 W3 (L.getD 7 false) (L.getD 8 false) (L.getD 11 false) := hI
      have s56 := hfr.got (j := 9) (d := 56) (by kernel_rfl) (Go.Drawn.dep_of hdeps (by kernel_rfl)) (v := .pointer (some ⟨blk, 0, none⟩)) rfl
      have hK' := hK w' (by show w' = ch W0 W1 W2 W3 ((L.setIfInBounds 10 true).getD 7 false) ((L.setIfInBounds 10 true).getD 8 false) ((L.setIfInBounds 10 true).getD 11 false); rw [Go.Drawn.set_ne (by decide), Go.Drawn.set_ne (by decide), Go.Drawn.set_ne (by decide)]; exact hI)
      clear hL hsh hfr hI hu hu' hdeps hK
      simp only [Region.wanted, if_true]
      go_simp
      exact hK'
    · intro L a w' hL hsh hfr hI hu hu' hdeps K hK
      replace hI : w' = ch W0 W1 W2 W3 (L.getD 7 false) (L.getD 8 false) (L.getD 11 false) := hI
      have s57 := hfr.got (j := 10) (d := 57) (by kernel_rfl) (Go.Drawn.dep_of hdeps (by kernel_rfl)) (v := .pointer (some ⟨blk, 0, none⟩)) rfl
      have s55 := hfr.got (j := 8) (d := 55) (by kernel_rfl) (Go.Drawn.dep_of hdeps (by kernel_rfl)) (v := .slice va (n + 1) vc) rfl
      have hd8 := Go.Drawn.dep_of hdeps (j := 8) (by kernel_rfl)
      rw [hd8, hu] at hI
      have hI2 : w' = W2 := hI
      have hcc := hcell true true
      have hcc0 : w'.cell? ⟨blk, 0, none⟩ = some (.slice sa n sc) := by rw [hI2]; exact hcc.1
      have hfz : w'.frozen? ⟨blk, 0, none⟩ = false := by rw [hI2]; exact hfzz
      have hK' := hK (w'.setCell ⟨blk, 0, none⟩ (.slice va (n + 1) vc)) (by show (w'.setCell ⟨blk, 0, none⟩ (.slice va (n + 1) vc)) = ch W0 W1 W2 W3 ((L.setIfInBounds 11 true).getD 7 false) ((L.setIfInBounds 11 true).getD 8 false) ((L.setIfInBounds 11 true).getD 11 false); rw [Go.Drawn.set_ne (by decide), Go.Drawn.set_ne (by decide), Go.Drawn.set_eq hL (by decide), hI2, HW3.out]; rfl)
      clear hL hsh hfr hI hu hu' hdeps hK hd8 hcc hI2
      simp only [Region.wanted, if_true]
      go_simp
      exact hK'
  intro L w3 hall hI3
  rw [hall 7 (by decide), hall 8 (by decide), hall 11 (by decide)] at hI3
  simp only [Go.Drawn.putAll, Act.put, List.getD_cons_zero, List.getD_cons_succ, List.setIfInBounds_toArray, List.set_cons_zero, List.set_cons_succ]
  have hI4 : w3 = W3 := hI3
  subst hI4
  clear hall hI3 hcell hrun
  go_wp2
  go_end0
  exact ⟨rfl, HF.out⟩

set_option maxRecDepth 100000 in
set_option maxHeartbeats 8000000 in
theorem push_gap (blk : Nat) (sa : Option Addr) (n sc : Nat) (items : List It) (lost : Nat) (e : Ev) (w : World) (h : RowAt w blk (.slice sa n sc) items lost) (hlen : n = items.length) (hn : n ≤ 14) (hlost : 0 < lost) :
    Calls Try.prog 27 #[.pointer (some ⟨blk, 0, none⟩), .agg e.cells.toArray] w fun x w' => x = .returned (.tuple #[]) ∧ Pushed blk (.slice sa n sc) w (items ++ [gap lost, e.it]) 0 w' := by
  obtain ⟨E, hE⟩ : ∃ E, E = e.cells.toArray := ⟨_, rfl⟩
  obtain ⟨J, hJ⟩ : ∃ J, J = e.it.cells.toArray := ⟨_, rfl⟩
  have hld : ∀ (b : Nat) (w : World), w.heap[b]? = some (.cells E 38) → (Instr.loadAt 38 (.pointer (some ⟨b, 0, none⟩))).run Try.prog w = .ok (.agg E) w := fun b w hb => by rw [hE] at hb ⊢; exact load38 b _ _ _ w hb
  have hbd : ∀ w, (Instr.build 40 #[(0, .agg E)]).run Try.prog w = .ok (.agg J) w := fun w => by rw [hE, hJ]; exact build40 _ _ _ w
  have hbs : ∀ w, (Instr.buildSlice 32 1 #[(0, .agg J)]).run Try.prog w = .ok (.slice (some ⟨w.heap.size, 0, none⟩) 1 1) (w.alloc (.cells J 40)) := fun w => by rw [hJ]; exact bs32 _ _ _ _ w
  have hbl := lt_of_at h.cell
  have hrow1 : RowAt (w.alloc (.cells E 38)) blk (.slice sa n sc) items lost := ⟨(Below.heap_alloc _ _ _ hbl).trans h.cell, h.sl.chg ((Chg.refl (fun _ => False) w).alloc _) (fun _ _ h => h)⟩
  have he0 : (w.alloc (.cells E 38)).heap[w.heap.size]? = some (.cells E 38) := heap_alloc_new w _
  have hc1 : w.cell? ⟨blk, 0, none⟩ = some (.slice sa n sc) := by simp [World.cell?, h.cell]
  have hc2 : w.cell? ⟨blk, 1, none⟩ = some (.int .u64 lost) := by simp [World.cell?, h.cell]
  have hd1 : (w.alloc (.cells E 38)).cell? ⟨blk, 0, none⟩ = some (.slice sa n sc) := by rw [World.cell?_alloc_past _ _ _ hbl]; exact hc1
  have hd2 : (w.alloc (.cells E 38)).cell? ⟨blk, 1, none⟩ = some (.int .u64 lost) := by rw [World.cell?_alloc_past _ _ _ hbl]; exact hc2
  have hw1 : IntKind.i64.wrap (16 - (n : Int)) = 16 - (n : Int) := IntWalk.i64_in _ ⟨by omega, by omega⟩
  obtain ⟨G, hG⟩ : ∃ G, G = (gap lost).cells.toArray := ⟨_, rfl⟩
  have hgd : ∀ w, (Instr.build 40 #[(1, .int .u64 lost)]).run Try.prog w = .ok (.agg G) w := fun w => by rw [hG]; exact build40g _ w
  have hgs : ∀ w, (Instr.buildSlice 32 1 #[(0, .agg G)]).run Try.prog w = .ok (.slice (some ⟨w.heap.size, 0, none⟩) 1 1) (w.alloc (.cells G 40)) := fun w => by rw [hG]; exact bs32 _ _ _ _ w
  obtain ⟨va, vc, W0, W1, W2, W3, st⟩ := stage hrow1 hlen (by omega) (gap lost) hG he0
  have hrow2 := st.row.setLost 0
  have he2 : (W3.setCell ⟨blk, 1, none⟩ (.int .u64 0)).heap[w.heap.size]? = some (.cells E 38) := (heap_setCell_other W3 ⟨blk, 1, none⟩ w.heap.size _ (fun e => by have := st.ev; rw [e, st.row.cell] at this; cases this)).trans st.ev
  obtain ⟨xa, xc, X0, X1, X2, X3, su⟩ := stage hrow2 (by simp; omega) (by simp; omega) e.it hJ he2
  have HW0 : Hid (W0 = (w.alloc (.cells E 38)).drew) := st.w0
  have HW1 : Hid (W1 = W0.alloc (.cells G 40)) := st.w1
  have HW3 : Hid (W3 = W2.setCell ⟨blk, 0, none⟩ (.slice va (n + 1) vc)) := st.w3
  have HX0 : Hid (X0 = (W3.setCell ⟨blk, 1, none⟩ (.int .u64 0)).drew) := su.w0
  have HX1 : Hid (X1 = X0.alloc (.cells J 40)) := su.w1
  have HX3 : Hid (X3 = X2.setCell ⟨blk, 0, none⟩ (.slice xa (n + 1 + 1) xc)) := su.w3
  have HRUN : Hid _ := st.run
  have HCELL : Hid _ := st.cell
  have HFZ : Hid _ := st.free
  have YRUN : Hid _ := su.run
  have YCELL : Hid _ := su.cell
  have YFZ : Hid _ := su.free
  have C6 : Hid (W3.cell? ⟨blk, 1, none⟩ = some (.int .u64 lost) ∧ W3.frozen? ⟨blk, 1, none⟩ = false) := by constructor <;> simp [World.cell?, World.frozen?, st.row.cell]
  have HF : Hid (Pushed blk (.slice sa n sc) w (items ++ [gap lost, e.it]) 0 X3) := by
    have c1 : Chg (fun k => k = blk ∨ (Value.slice sa n sc).ownBlock = some k) w W3 := ((Chg.refl _ w).alloc _).trans (st.chg.mono fun _ _ h => .inl h)
    have c2 := c1.setCell (p := ⟨blk, 1, none⟩) (.inl (.inl rfl)) (.int .u64 0)
    have hs1 : w.heap.size ≤ W3.heap.size := c1.size
    refine ⟨_, by have := su.row; rwa [List.append_assoc] at this, c2.trans (su.chg.mono fun k _ hk => ?_), ?_⟩
    · rcases hk with hk | hk
      · exact .inl (.inl hk)
      · rcases st.own with ho | ⟨k', hk', hkl⟩
        · exact .inl (.inr (by rw [← ho]; exact hk))
        · rw [hk'] at hk; cases hk; exact .inr (by simp at hkl; omega)
    · rcases su.own with ho | ⟨k, hk, hkl⟩
      · rcases st.own with ho' | ⟨k, hk, hkl⟩
        · exact .inl (ho.trans ho')
        · exact .inr ⟨k, ho.trans hk, by simp at hkl; omega⟩
      · refine .inr ⟨k, hk, ?_⟩
        have hz : (W3.setCell ⟨blk, 1, none⟩ (.int .u64 ((0 : Nat) : Int))).heap.size = W3.heap.size := by simp [World.setCell]
        omega
  rw [← hE]
  have hlost1 : decide ((0 : Int) < (lost : Int)) = true := by simp; omega
  clear st su hc1 hc2 hrow1 hrow2 h he0 he2 hE hJ hG hlen
  have hrun := HRUN.out
  have hcell := HCELL.out
  have hfzz := HFZ.out
  go_enter Try.func27, Try.ntmps27
  go_wp2_with fail
  refine Go.Drawn.wp_region_inv (fun i => ([.pointer (some ⟨blk, 0, none⟩), .pointer (some ⟨blk, 0, none⟩), .pointer (some ⟨blk, 0, none⟩), .pointer (some ⟨blk, 0, none⟩), .slice sa n sc, .pointer (some ⟨blk, 0, none⟩), .pointer (some ⟨blk, 0, none⟩), .pointer (some ⟨blk, 1, none⟩), .int .u64 lost, .agg G, .slice (some ⟨W0.heap.size, 0, none⟩) 1 1, .slice va (n + 1) vc, .pointer (some ⟨blk, 0, none⟩), .pointer (some ⟨blk, 0, none⟩), undef] : List Value).getD i undef) (fun L w' => w' = ch W0 W1 W2 W3 (L.getD 10 false) (L.getD 11 false) (L.getD 14 false)) (by kernel_rfl) (by kernel_rfl) (by kernel_rfl) ?_ ?_ ?_
  · intro L hL
    rw [hL, hL, hL]
    exact HW0.out.symm
  rotate_left
  · refine ⟨?_, ?_, ?_, ?_, ?_, ?_, ?_, ?_, ?_, ?_, ?_, ?_, ?_, ?_, ?_, trivial⟩
    · intro L a w' hL hsh hfr hI hu hu' hdeps K hK
      replace hI : w' = ch W0 W1 W2 W3 (L.getD 10 false) (L.getD 11 false) (L.getD 14 false) := hI
      have s0 := hfr.old (t := 0) (by kernel_rfl) (v := .pointer (some ⟨blk, 0, none⟩)) rfl
      have hK' := hK w' (by show w' = ch W0 W1 W2 W3 ((L.setIfInBounds 0 true).getD 10 false) ((L.setIfInBounds 0 true).getD 11 false) ((L.setIfInBounds 0 true).getD 14 false); rw [Go.Drawn.set_ne (by decide), Go.Drawn.set_ne (by decide), Go.Drawn.set_ne (by decide)]; exact hI)
      clear hL hsh hfr hI hu hu' hdeps hK
      simp only [Region.wanted, if_true]
      go_simp
      exact hK'
    · intro L a w' hL hsh hfr hI hu hu' hdeps K hK
      replace hI : w' = ch W0 W1 W2 W3 (L.getD 10 false) (L.getD 11 false) (L.getD 14 false) := hI
      have s0 := hfr.old (t := 0) (by kernel_rfl) (v := .pointer (some ⟨blk, 0, none⟩)) rfl
      have hK' := hK w' (by show w' = ch W0 W1 W2 W3 ((L.setIfInBounds 1 true).getD 10 false) ((L.setIfInBounds 1 true).getD 11 false) ((L.setIfInBounds 1 true).getD 14 false); rw [Go.Drawn.set_ne (by decide), Go.Drawn.set_ne (by decide), Go.Drawn.set_ne (by decide)]; exact hI)
      clear hL hsh hfr hI hu hu' hdeps hK
      simp only [Region.wanted, if_true]
      go_simp
      exact hK'
    · intro L a w' hL hsh hfr hI hu hu' hdeps K hK
      replace hI : w' = ch W0 W1 W2 W3 (L.getD 10 false) (L.getD 11 false) (L.getD 14 false) := hI
      have s26 := hfr.got (j := 1) (d := 26) (by kernel_rfl) (Go.Drawn.dep_of hdeps (by kernel_rfl)) (v := .pointer (some ⟨blk, 0, none⟩)) rfl
      have hK' := hK w' (by show w' = ch W0 W1 W2 W3 ((L.setIfInBounds 2 true).getD 10 false) ((L.setIfInBounds 2 true).getD 11 false) ((L.setIfInBounds 2 true).getD 14 false); rw [Go.Drawn.set_ne (by decide), Go.Drawn.set_ne (by decide), Go.Drawn.set_ne (by decide)]; exact hI)
      clear hL hsh hfr hI hu hu' hdeps hK
      simp only [Region.wanted, if_true]
      go_simp
      exact hK'
    · intro L a w' hL hsh hfr hI hu hu' hdeps K hK
      replace hI : w' = ch W0 W1 W2 W3 (L.getD 10 false) (L.getD 11 false) (L.getD 14 false) := hI
      have s27 := hfr.got (j := 2) (d := 27) (by kernel_rfl) (Go.Drawn.dep_of hdeps (by kernel_rfl)) (v := .pointer (some ⟨blk, 0, none⟩)) rfl
      have hK' := hK w' (by show w' = ch W0 W1 W2 W3 ((L.setIfInBounds 3 true).getD 10 false) ((L.setIfInBounds 3 true).getD 11 false) ((L.setIfInBounds 3 true).getD 14 false); rw [Go.Drawn.set_ne (by decide), Go.Drawn.set_ne (by decide), Go.Drawn.set_ne (by decide)]; exact hI)
      clear hL hsh hfr hI hu hu' hdeps hK
      simp only [Region.wanted, if_true]
      go_simp
      exact hK'
    · intro L a w' hL hsh hfr hI hu hu' hdeps K hK
      replace hI : w' = ch W0 W1 W2 W3 (L.getD 10 false) (L.getD 11 false) (L.getD 14 false) := hI
      have hN11 := hsh.not (i := 4) (j := 11) (by kernel_rfl) hu
      have hN14 := hsh.not (i := 11) (j := 14) (by kernel_rfl) hN11
      have hcc := hcell (L.getD 10 false) (L.getD 11 false)
      have hI2 := hI
      rw [hN14] at hI2
      rw [← hI2] at hcc
      obtain ⟨hc0, hc1, hc3⟩ := hcc
      have s28 := hfr.got (j := 3) (d := 28) (by kernel_rfl) (Go.Drawn.dep_of hdeps (by kernel_rfl)) (v := .pointer (some ⟨blk, 0, none⟩)) rfl
      have hK' := hK w' (by show w' = ch W0 W1 W2 W3 ((L.setIfInBounds 4 true).getD 10 false) ((L.setIfInBounds 4 true).getD 11 false) ((L.setIfInBounds 4 true).getD 14 false); rw [Go.Drawn.set_ne (by decide), Go.Drawn.set_ne (by decide), Go.Drawn.set_ne (by decide)]; exact hI)
      clear hL hsh hfr hI hu hu' hdeps hK hI2
      simp only [Region.wanted, if_true]
      go_simp
      exact hK'
    · intro L a w' hL hsh hfr hI hu hu' hdeps K hK
      replace hI : w' = ch W0 W1 W2 W3 (L.getD 10 false) (L.getD 11 false) (L.getD 14 false) := hI
      have s0 := hfr.old (t := 0) (by kernel_rfl) (v := .pointer (some ⟨blk, 0, none⟩)) rfl
      have hK' := hK w' (by show w' = ch W0 W1 W2 W3 ((L.setIfInBounds 5 true).getD 10 false) ((L.setIfInBounds 5 true).getD 11 false) ((L.setIfInBounds 5 true).getD 14 false); rw [Go.Drawn.set_ne (by decide), Go.Drawn.set_ne (by decide), Go.Drawn.set_ne (by decide)]; exact hI)
      clear hL hsh hfr hI hu hu' hdeps hK
      simp only [Region.wanted, if_true]
      go_simp
      exact hK'
    · intro L a w' hL hsh hfr hI hu hu' hdeps K hK
      replace hI : w' = ch W0 W1 W2 W3 (L.getD 10 false) (L.getD 11 false) (L.getD 14 false) := hI
      have s30 := hfr.got (j := 5) (d := 30) (by kernel_rfl) (Go.Drawn.dep_of hdeps (by kernel_rfl)) (v := .pointer (some ⟨blk, 0, none⟩)) rfl
      have hK' := hK w' (by show w' = ch W0 W1 W2 W3 ((L.setIfInBounds 6 true).getD 10 false) ((L.setIfInBounds 6 true).getD 11 false) ((L.setIfInBounds 6 true).getD 14 false); rw [Go.Drawn.set_ne (by decide), Go.Drawn.set_ne (by decide), Go.Drawn.set_ne (by decide)]; exact hI)
      clear hL hsh hfr hI hu hu' hdeps hK
      simp only [Region.wanted, if_true]
      go_simp
      exact hK'
    · intro L a w' hL hsh hfr hI hu hu' hdeps K hK
      replace hI : w' = ch W0 W1 W2 W3 (L.getD 10 false) (L.getD 11 false) (L.getD 14 false) := hI
      have s31 := hfr.got (j := 6) (d := 31) (by kernel_rfl) (Go.Drawn.dep_of hdeps (by kernel_rfl)) (v := .pointer (some ⟨blk, 0, none⟩)) rfl
      have hK' := hK w' (by show w' = ch W0 W1 W2 W3 ((L.setIfInBounds 7 true).getD 10 false) ((L.setIfInBounds 7 true).getD 11 false) ((L.setIfInBounds 7 true).getD 14 false); rw [Go.Drawn.set_ne (by decide), Go.Drawn.set_ne (by decide), Go.Drawn.set_ne (by decide)]; exact hI)
      clear hL hsh hfr hI hu hu' hdeps hK
      simp only [Region.wanted, if_true]
      go_simp
      exact hK'
    · intro L a w' hL hsh hfr hI hu hu' hdeps K hK
      replace hI : w' = ch W0 W1 W2 W3 (L.getD 10 false) (L.getD 11 false) (L.getD 14 false) := hI
      have hN9 := hsh.not (i := 8) (j := 9) (by kernel_rfl) hu
      have hN10 := hsh.not (i := 9) (j := 10) (by kernel_rfl) hN9
      have hN11 := hsh.not (i := 10) (j := 11) (by kernel_rfl) hN10
      have hN14 := hsh.not (i := 11) (j := 14) (by kernel_rfl) hN11
      have hcc := hcell (L.getD 10 false) (L.getD 11 false)
      have hI2 := hI
      rw [hN14] at hI2
      rw [← hI2] at hcc
      obtain ⟨hc0, hc1, hc3⟩ := hcc
      have s32 := hfr.got (j := 7) (d := 32) (by kernel_rfl) (Go.Drawn.dep_of hdeps (by kernel_rfl)) (v := .pointer (some ⟨blk, 1, none⟩)) rfl
      have hK' := hK w' (by show w' = ch W0 W1 W2 W3 ((L.setIfInBounds 8 true).getD 10 false) ((L.setIfInBounds 8 true).getD 11 false) ((L.setIfInBounds 8 true).getD 14 false); rw [Go.Drawn.set_ne (by decide), Go.Drawn.set_ne (by decide), Go.Drawn.set_ne (by decide)]; exact hI)
      clear hL hsh hfr hI hu hu' hdeps hK hI2
      simp only [Region.wanted, if_true]
      go_simp
      exact hK'
    · intro L a w' hL hsh hfr hI hu hu' hdeps K hK
      replace hI : w' = ch W0 W1 W2 W3 (L.getD 10 false) (L.getD 11 false) (L.getD 14 false) := hI
      have s33 := hfr.got (j := 8) (d := 33) (by kernel_rfl) (Go.Drawn.dep_of hdeps (by kernel_rfl)) (v := .int .u64 lost) rfl
      have hK' := hK w' (by show w' = ch W0 W1 W2 W3 ((L.setIfInBounds 9 true).getD 10 false) ((L.setIfInBounds 9 true).getD 11 false) ((L.setIfInBounds 9 true).getD 14 false); rw [Go.Drawn.set_ne (by decide), Go.Drawn.set_ne (by decide), Go.Drawn.set_ne (by decide)]; exact hI)
      clear hL hsh hfr hI hu hu' hdeps hK
      simp only [Region.wanted, if_true]
      exact Go.Ops.wp_build rfl (by simp only [List.map_toArray, List.map_cons, List.map_nil, Go.Ops.ev s33]; exact hgd w') hK'
    · intro L a w' hL hsh hfr hI hu hu' hdeps K hK
      replace hI : w' = ch W0 W1 W2 W3 (L.getD 10 false) (L.getD 11 false) (L.getD 14 false) := hI
      have hN11 := hsh.not (i := 10) (j := 11) (by kernel_rfl) hu
      have hN14 := hsh.not (i := 11) (j := 14) (by kernel_rfl) hN11
      have s34 := hfr.got (j := 9) (d := 34) (by kernel_rfl) (Go.Drawn.dep_of hdeps (by kernel_rfl)) (v := .agg G) rfl
      rw [hu, hN11, hN14] at hI
      have hI2 : w' = W0 := hI
      have hK' := hK W1 (by show W1 = ch W0 W1 W2 W3 ((L.setIfInBounds 10 true).getD 10 false) ((L.setIfInBounds 10 true).getD 11 false) ((L.setIfInBounds 10 true).getD 14 false); rw [Go.Drawn.set_eq hL (by decide), Go.Drawn.set_ne (by decide), Go.Drawn.set_ne (by decide), hN11, hN14]; rfl)
      clear hL hsh hfr hI hu hu' hdeps hK
      simp only [Region.wanted, if_true]
      have hbw := hgs W0
      rw [← HW1.out] at hbw
      exact Go.Ops.wp_buildSlice rfl (by simp only [List.map_toArray, List.map_cons, List.map_nil, Go.Ops.ev s34]; rw [hI2]; exact hbw) hK'
    · intro L a w' hL hsh hfr hI hu hu' hdeps K hK
      replace hI : w' = ch W0 W1 W2 W3 (L.getD 10 false) (L.getD 11 false) (L.getD 14 false) := hI
      have hN14 := hsh.not (i := 11) (j := 14) (by kernel_rfl) hu
      have s29 := hfr.got (j := 4) (d := 29) (by kernel_rfl) (Go.Drawn.dep_of hdeps (by kernel_rfl)) (v := .slice sa n sc) rfl
      have s35 := hfr.got (j := 10) (d := 35) (by kernel_rfl) (Go.Drawn.dep_of hdeps (by kernel_rfl)) (v := .slice (some ⟨W0.heap.size, 0, none⟩) 1 1) rfl
      have hd10 := Go.Drawn.dep_of hdeps (j := 10) (by kernel_rfl)
      rw [hd10, hu, hN14] at hI
      have hI2 : w' = W1 := hI
      have hK' := hK W2 (by show W2 = ch W0 W1 W2 W3 ((L.setIfInBounds 11 true).getD 10 false) ((L.setIfInBounds 11 true).getD 11 false) ((L.setIfInBounds 11 true).getD 14 false); rw [Go.Drawn.set_ne (by decide), Go.Drawn.set_eq hL (by decide), Go.Drawn.set_ne (by decide), hd10, hN14]; rfl)
      clear hL hsh hfr hI hu hu' hdeps hK hd10
      simp only [Region.wanted, if_true]
      have hap := hrun 32
      exact Go.Ops.wp_append rfl (by rw [Go.Ops.ev s29, Go.Ops.ev s35, hI2]; exact hap) hK'
    · intro L a w' hL hsh hfr hI hu hu' hdeps K hK
      replace hI : w' = ch W0 W1 W2 W3 (L.getD 10 false) (L.getD 11 false) (L.getD 14 false) := hI
      have s25 := hfr.got (j := 0) (d := 25) (by kernel_rfl) (Go.Drawn.dep_of hdeps (by kernel_rfl)) (v := .pointer (some ⟨blk, 0, none⟩)) rfl
      have hK' := hK w' (by show w' = ch W0 W1 W2 W3 ((L.setIfInBounds 12 true).getD 10 false) ((L.setIfInBounds 12 true).getD 11 false) ((L.setIfInBounds 12 true).getD 14 false); rw [Go.Drawn.set_ne (by decide), Go.Drawn.set_ne (by decide), Go.Drawn.set_ne (by decide)]; exact hI)
      clear hL hsh hfr hI hu hu' hdeps hK
      simp only [Region.wanted, if_true]
      go_simp
      exact hK'
    · intro L a w' hL hsh hfr hI hu hu' hdeps K hK
      replace hI : w' = ch W0 W1 W2 W3 (L.getD 10 false) (L.getD 11 false) (L.getD 14 false) := hI
      have s37 := hfr.got (j := 12) (d := 37) (by kernel_rfl) (Go.Drawn.dep_of hdeps (by kernel_rfl)) (v := .pointer (some ⟨blk, 0, none⟩)) rfl
      have hK' := hK w' (by show w' = ch W0 W1 W2 W3 ((L.setIfInBounds 13 true).getD 10 false) ((L.setIfInBounds 13 true).getD 11 false) ((L.setIfInBounds 13 true).getD 14 false); rw [Go.Drawn.set_ne (by decide), Go.Drawn.set_ne (by decide), Go.Drawn.set_ne (by decide)]; exact hI)
      clear hL hsh hfr hI hu hu' hdeps hK
      simp only [Region.wanted, if_true]
      go_simp
      exact hK'
    · intro L a w' hL hsh hfr hI hu hu' hdeps K hK
      replace hI : w' = ch W0 W1 W2 W3 (L.getD 10 false) (L.getD 11 false) (L.getD 14 false) := hI
      have s38 := hfr.got (j := 13) (d := 38) (by kernel_rfl) (Go.Drawn.dep_of hdeps (by kernel_rfl)) (v := .pointer (some ⟨blk, 0, none⟩)) rfl
      have s36 := hfr.got (j := 11) (d := 36) (by kernel_rfl) (Go.Drawn.dep_of hdeps (by kernel_rfl)) (v := .slice va (n + 1) vc) rfl
      have hd11 := Go.Drawn.dep_of hdeps (j := 11) (by kernel_rfl)
      rw [hd11, hu] at hI
      have hI2 : w' = W2 := hI
      have hcc := hcell true true
      have hcc0 : w'.cell? ⟨blk, 0, none⟩ = some (.slice sa n sc) := by rw [hI2]; exact hcc.1
      have hfz : w'.frozen? ⟨blk, 0, none⟩ = false := by rw [hI2]; exact hfzz
      have hK' := hK (w'.setCell ⟨blk, 0, none⟩ (.slice va (n + 1) vc)) (by show (w'.setCell ⟨blk, 0, none⟩ (.slice va (n + 1) vc)) = ch W0 W1 W2 W3 ((L.setIfInBounds 14 true).getD 10 false) ((L.setIfInBounds 14 true).getD 11 false) ((L.setIfInBounds 14 true).getD 14 false); rw [Go.Drawn.set_ne (by decide), Go.Drawn.set_ne (by decide), Go.Drawn.set_eq hL (by decide), hI2, HW3.out]; rfl)
      clear hL hsh hfr hI hu hu' hdeps hK hd11 hcc hI2
      simp only [Region.wanted, if_true]
      go_simp
      exact hK'
  intro L w3 hall hI3
  rw [hall 10 (by decide), hall 11 (by decide), hall 14 (by decide)] at hI3
  simp only [Go.Drawn.putAll, Act.put, List.getD_cons_zero, List.getD_cons_succ, List.setIfInBounds_toArray, List.set_cons_zero, List.set_cons_succ]
  have hI4 : w3 = W3 := hI3
  subst hI4
  clear hall hI3 hcell hrun
  have c6 := C6.out.1
  have f6 := C6.out.2
  clear hfzz
  go_wp2_with fail
  clear c6 f6
  have yrun := YRUN.out
  have ycell := YCELL.out
  have hfzz := YFZ.out
  refine Go.Drawn.wp_region_inv (fun i => ([.pointer (some ⟨blk, 0, none⟩), .pointer (some ⟨blk, 0, none⟩), .pointer (some ⟨blk, 0, none⟩), .pointer (some ⟨blk, 0, none⟩), .slice va (n + 1) vc, .agg E, .agg J, .slice (some ⟨X0.heap.size, 0, none⟩) 1 1, .slice xa (n + 1 + 1) xc, .pointer (some ⟨blk, 0, none⟩), .pointer (some ⟨blk, 0, none⟩), undef] : List Value).getD i undef) (fun L w' => w' = ch X0 X1 X2 X3 (L.getD 7 false) (L.getD 8 false) (L.getD 11 false)) (by kernel_rfl) (by kernel_rfl) (by kernel_rfl) ?_ ?_ ?_
  · intro L hL
    rw [hL, hL, hL]
    exact HX0.out.symm
  rotate_left
  · refine ⟨?_, ?_, ?_, ?_, ?_, ?_, ?_, ?_, ?_, ?_, ?_, ?_, trivial⟩
    · intro L a w' hL hsh hfr hI hu hu' hdeps K hK
      replace hI : w' = ch X0 X1 X2 X3 (L.getD 7 false) (L.getD 8 false) (L.getD 11 false) := hI
      have s0 := hfr.old (t := 0) (by kernel_rfl) (v := .pointer (some ⟨blk, 0, none⟩)) rfl
      have hK' := hK w' (by show w' = ch X0 X1 X2 X3 ((L.setIfInBounds 0 true).getD 7 false) ((L.setIfInBounds 0 true).getD 8 false) ((L.setIfInBounds 0 true).getD 11 false); rw [Go.Drawn.set_ne (by decide), Go.Drawn.set_ne (by decide), Go.Drawn.set_ne (by decide)]; exact hI)
      clear hL hsh hfr hI hu hu' hdeps hK
      simp only [Region.wanted, if_true]
      go_simp
      exact hK'
    · intro L a w' hL hsh hfr hI hu hu' hdeps K hK
      replace hI : w' = ch X0 X1 X2 X3 (L.getD 7 false) (L.getD 8 false) (L.getD 11 false) := hI
      have s0 := hfr.old (t := 0) (by kernel_rfl) (v := .pointer (some ⟨blk, 0, none⟩)) rfl
      have hK' := hK w' (by show w' = ch X0 X1 X2 X3 ((L.setIfInBounds 1 true).getD 7 false) ((L.setIfInBounds 1 true).getD 8 false) ((L.setIfInBounds 1 true).getD 11 false); rw [Go.Drawn.set_ne (by decide), Go.Drawn.set_ne (by decide), Go.Drawn.set_ne (by decide)]; exact hI)
      clear hL hsh hfr hI hu hu' hdeps hK
      simp only [Region.wanted, if_true]
      go_simp
      exact hK'
    · intro L a w' hL hsh hfr hI hu hu' hdeps K hK
      replace hI : w' = ch X0 X1 X2 X3 (L.getD 7 false) (L.getD 8 false) (L.getD 11 false) := hI
      have s48 := hfr.got (j := 1) (d := 48) (by kernel_rfl) (Go.Drawn.dep_of hdeps (by kernel_rfl)) (v := .pointer (some ⟨blk, 0, none⟩)) rfl
      have hK' := hK w' (by show w' = ch X0 X1 X2 X3 ((L.setIfInBounds 2 true).getD 7 false) ((L.setIfInBounds 2 true).getD 8 false) ((L.setIfInBounds 2 true).getD 11 false); rw [Go.Drawn.set_ne (by decide), Go.Drawn.set_ne (by decide), Go.Drawn.set_ne (by decide)]; exact hI)
      clear hL hsh hfr hI hu hu' hdeps hK
      simp only [Region.wanted, if_true]
      go_simp
      exact hK'
    · intro L a w' hL hsh hfr hI hu hu' hdeps K hK
      replace hI : w' = ch X0 X1 X2 X3 (L.getD 7 false) (L.getD 8 false) (L.getD 11 false) := hI
      have s49 := hfr.got (j := 2) (d := 49) (by kernel_rfl) (Go.Drawn.dep_of hdeps (by kernel_rfl)) (v := .pointer (some ⟨blk, 0, none⟩)) rfl
      have hK' := hK w' (by show w' = ch X0 X1 X2 X3 ((L.setIfInBounds 3 true).getD 7 false) ((L.setIfInBounds 3 true).getD 8 false) ((L.setIfInBounds 3 true).getD 11 false); rw [Go.Drawn.set_ne (by decide), Go.Drawn.set_ne (by decide), Go.Drawn.set_ne (by decide)]; exact hI)
      clear hL hsh hfr hI hu hu' hdeps hK
      simp only [Region.wanted, if_true]
      go_simp
      exact hK'
    · intro L a w' hL hsh hfr hI hu hu' hdeps K hK
      replace hI : w' = ch X0 X1 X2 X3 (L.getD 7 false) (L.getD 8 false) (L.getD 11 false) := hI
      have hN8 := hsh.not (i := 4) (j := 8) (by kernel_rfl) hu
      have hN11 := hsh.not (i := 8) (j := 11) (by kernel_rfl) hN8
      have hcc := ycell (L.getD 7 false) (L.getD 8 false)
      have hI2 := hI
      rw [hN11] at hI2
      rw [← hI2] at hcc
      obtain ⟨hc0, hc1, hc3⟩ := hcc
      have s50 := hfr.got (j := 3) (d := 50) (by kernel_rfl) (Go.Drawn.dep_of hdeps (by kernel_rfl)) (v := .pointer (some ⟨blk, 0, none⟩)) rfl
      have hK' := hK w' (by show w' = ch X0 X1 X2 X3 ((L.setIfInBounds 4 true).getD 7 false) ((L.setIfInBounds 4 true).getD 8 false) ((L.setIfInBounds 4 true).getD 11 false); rw [Go.Drawn.set_ne (by decide), Go.Drawn.set_ne (by decide), Go.Drawn.set_ne (by decide)]; exact hI)
      clear hL hsh hfr hI hu hu' hdeps hK hI2
      simp only [Region.wanted, if_true]
      go_simp
      exact hK'
    · intro L a w' hL hsh hfr hI hu hu' hdeps K hK
      replace hI : w' = ch X0 X1 X2 X3 (L.getD 7 false) (L.getD 8 false) (L.getD 11 false) := hI
      have hN6 := hsh.not (i := 5) (j := 6) (by kernel_rfl) hu
      have hN7 := hsh.not (i := 6) (j := 7) (by kernel_rfl) hN6
      have hN8 := hsh.not (i := 7) (j := 8) (by kernel_rfl) hN7
      have hN11 := hsh.not (i := 8) (j := 11) (by kernel_rfl) hN8
      have hcc := ycell (L.getD 7 false) (L.getD 8 false)
      have hI2 := hI
      rw [hN11] at hI2
      rw [← hI2] at hcc
      have hlw := hld w.heap.size w' hcc.2.2
      have s3 := hfr.old (t := 3) (by kernel_rfl) (v := .pointer (some ⟨w.heap.size, 0, none⟩)) rfl
      have hK' := hK w' (by show w' = ch X0 X1 X2 X3 ((L.setIfInBounds 5 true).getD 7 false) ((L.setIfInBounds 5 true).getD 8 false) ((L.setIfInBounds 5 true).getD 11 false); rw [Go.Drawn.set_ne (by decide), Go.Drawn.set_ne (by decide), Go.Drawn.set_ne (by decide)]; exact hI)
      clear hL hsh hfr hI hu hu' hdeps hK hI2 hcc
      simp only [Region.wanted, if_true]
      exact Go.Ops.wp_load rfl (by rw [Go.Ops.ev s3]; exact hlw) hK'
    · intro L a w' hL hsh hfr hI hu hu' hdeps K hK
      replace hI : w' = ch X0 X1 X2 X3 (L.getD 7 false) (L.getD 8 false) (L.getD 11 false) := hI
      have s52 := hfr.got (j := 5) (d := 52) (by kernel_rfl) (Go.Drawn.dep_of hdeps (by kernel_rfl)) (v := .agg E) rfl
      have hK' := hK w' (by show w' = ch X0 X1 X2 X3 ((L.setIfInBounds 6 true).getD 7 false) ((L.setIfInBounds 6 true).getD 8 false) ((L.setIfInBounds 6 true).getD 11 false); rw [Go.Drawn.set_ne (by decide), Go.Drawn.set_ne (by decide), Go.Drawn.set_ne (by decide)]; exact hI)
      clear hL hsh hfr hI hu hu' hdeps hK
      simp only [Region.wanted, if_true]
      exact Go.Ops.wp_build rfl (by simp only [List.map_toArray, List.map_cons, List.map_nil, Go.Ops.ev s52]; exact hbd w') hK'
    · intro L a w' hL hsh hfr hI hu hu' hdeps K hK
      replace hI : w' = ch X0 X1 X2 X3 (L.getD 7 false) (L.getD 8 false) (L.getD 11 false) := hI
      have hN8 := hsh.not (i := 7) (j := 8) (by kernel_rfl) hu
      have hN11 := hsh.not (i := 8) (j := 11) (by kernel_rfl) hN8
      have s53 := hfr.got (j := 6) (d := 53) (by kernel_rfl) (Go.Drawn.dep_of hdeps (by kernel_rfl)) (v := .agg J) rfl
      rw [hu, hN8, hN11] at hI
      have hI2 : w' = X0 := hI
      have hK' := hK X1 (by show X1 = ch X0 X1 X2 X3 ((L.setIfInBounds 7 true).getD 7 false) ((L.setIfInBounds 7 true).getD 8 false) ((L.setIfInBounds 7 true).getD 11 false); rw [Go.Drawn.set_eq hL (by decide), Go.Drawn.set_ne (by decide), Go.Drawn.set_ne (by decide), hN8, hN11]; rfl)
      clear hL hsh hfr hI hu hu' hdeps hK
      simp only [Region.wanted, if_true]
      have hbw := hbs X0
      rw [← HX1.out] at hbw
      exact Go.Ops.wp_buildSlice rfl (by simp only [List.map_toArray, List.map_cons, List.map_nil, Go.Ops.ev s53]; rw [hI2]; exact hbw) hK'
    · intro L a w' hL hsh hfr hI hu hu' hdeps K hK
      replace hI : w' = ch X0 X1 X2 X3 (L.getD 7 false) (L.getD 8 false) (L.getD 11 false) := hI
      have hN11 := hsh.not (i := 8) (j := 11) (by kernel_rfl) hu
      have s51 := hfr.got (j := 4) (d := 51) (by kernel_rfl) (Go.Drawn.dep_of hdeps (by kernel_rfl)) (v := .slice va (n + 1) vc) rfl
      have s54 := hfr.got (j := 7) (d := 54) (by kernel_rfl) (Go.Drawn.dep_of hdeps (by kernel_rfl)) (v := .slice (some ⟨X0.heap.size, 0, none⟩) 1 1) rfl
      have hd7 := Go.Drawn.dep_of hdeps (j := 7) (by kernel_rfl)
      rw [hd7, hu, hN11] at hI
      have hI2 : w' = X1 := hI
      have hK' := hK X2 (by show X2 = ch X0 X1 X2 X3 ((L.setIfInBounds 8 true).getD 7 false) ((L.setIfInBounds 8 true).getD 8 false) ((L.setIfInBounds 8 true).getD 11 false); rw [Go.Drawn.set_ne (by decide), Go.Drawn.set_eq hL (by decide), Go.Drawn.set_ne (by decide), hd7, hN11]; rfl)
      clear hL hsh hfr hI hu hu' hdeps hK hd7
      simp only [Region.wanted, if_true]
      have hap := yrun 32
      exact Go.Ops.wp_append rfl (by rw [Go.Ops.ev s51, Go.Ops.ev s54, hI2]; exact hap) hK'
    · intro L a w' hL hsh hfr hI hu hu' hdeps K hK
      replace hI : w' = ch X0 X1 X2 X3 (L.getD 7 false) (L.getD 8 false) (L.getD 11 false) := hI
      have s47 := hfr.got (j := 0) (d := 47) (by kernel_rfl) (Go.Drawn.dep_of hdeps (by kernel_rfl)) (v := .pointer (some ⟨blk, 0, none⟩)) rfl
      have hK' := hK w' (by show w' = ch X0 X1 X2 X3 ((L.setIfInBounds 9 true).getD 7 false) ((L.setIfInBounds 9 true).getD 8 false) ((L.setIfInBounds 9 true).getD 11 false); rw [Go.Drawn.set_ne (by decide), Go.Drawn.set_ne (by decide), Go.Drawn.set_ne (by decide)]; exact hI)
      clear hL hsh hfr hI hu hu' hdeps hK
      simp only [Region.wanted, if_true]
      go_simp
      exact hK'
    · intro L a w' hL hsh hfr hI hu hu' hdeps K hK
      replace hI : w' = ch X0 X1 X2 X3 (L.getD 7 false) (L.getD 8 false) (L.getD 11 false) := hI
      have s56 := hfr.got (j := 9) (d := 56) (by kernel_rfl) (Go.Drawn.dep_of hdeps (by kernel_rfl)) (v := .pointer (some ⟨blk, 0, none⟩)) rfl
      have hK' := hK w' (by show w' = ch X0 X1 X2 X3 ((L.setIfInBounds 10 true).getD 7 false) ((L.setIfInBounds 10 true).getD 8 false) ((L.setIfInBounds 10 true).getD 11 false); rw [Go.Drawn.set_ne (by decide), Go.Drawn.set_ne (by decide), Go.Drawn.set_ne (by decide)]; exact hI)
      clear hL hsh hfr hI hu hu' hdeps hK
      simp only [Region.wanted, if_true]
      go_simp
      exact hK'
    · intro L a w' hL hsh hfr hI hu hu' hdeps K hK
      replace hI : w' = ch X0 X1 X2 X3 (L.getD 7 false) (L.getD 8 false) (L.getD 11 false) := hI
      have s57 := hfr.got (j := 10) (d := 57) (by kernel_rfl) (Go.Drawn.dep_of hdeps (by kernel_rfl)) (v := .pointer (some ⟨blk, 0, none⟩)) rfl
      have s55 := hfr.got (j := 8) (d := 55) (by kernel_rfl) (Go.Drawn.dep_of hdeps (by kernel_rfl)) (v := .slice xa (n + 1 + 1) xc) rfl
      have hd8 := Go.Drawn.dep_of hdeps (j := 8) (by kernel_rfl)
      rw [hd8, hu] at hI
      have hI2 : w' = X2 := hI
      have hcc := ycell true true
      have hcc0 : w'.cell? ⟨blk, 0, none⟩ = some (.slice va (n + 1) vc) := by rw [hI2]; exact hcc.1
      have hfz : w'.frozen? ⟨blk, 0, none⟩ = false := by rw [hI2]; exact hfzz
      have hK' := hK (w'.setCell ⟨blk, 0, none⟩ (.slice xa (n + 1 + 1) xc)) (by show (w'.setCell ⟨blk, 0, none⟩ (.slice xa (n + 1 + 1) xc)) = ch X0 X1 X2 X3 ((L.setIfInBounds 11 true).getD 7 false) ((L.setIfInBounds 11 true).getD 8 false) ((L.setIfInBounds 11 true).getD 11 false); rw [Go.Drawn.set_ne (by decide), Go.Drawn.set_ne (by decide), Go.Drawn.set_eq hL (by decide), hI2, HX3.out]; rfl)
      clear hL hsh hfr hI hu hu' hdeps hK hd8 hcc hI2
      simp only [Region.wanted, if_true]
      go_simp
      exact hK'
  intro L w3 hall hI3
  rw [hall 7 (by decide), hall 8 (by decide), hall 11 (by decide)] at hI3
  simp only [Go.Drawn.putAll, Act.put, List.getD_cons_zero, List.getD_cons_succ, List.setIfInBounds_toArray, List.set_cons_zero, List.set_cons_succ]
  have hI4 : w3 = X3 := hI3
  subst hI4
  clear hall hI3 ycell yrun
  go_wp2
  go_end0
  exact ⟨rfl, HF.out⟩

set_option maxRecDepth 100000 in
set_option maxHeartbeats 4000000 in
theorem push_lost (blk : Nat) (sa : Option Addr) (n sc : Nat) (items : List It) (lost : Nat) (E : Array Value) (w : World) (h : RowAt w blk (.slice sa n sc) items lost) (hlen : n = items.length) (hn : 15 ≤ n) (hn2 : n ≤ 16) (hlost : 0 < lost) (hbig : lost < 1000000) :
    Calls Try.prog 27 #[.pointer (some ⟨blk, 0, none⟩), .agg E] w fun x w' => x = .returned (.tuple #[]) ∧ Pushed blk (.slice sa n sc) w items (lost + 1) w' := by
  have hbl := lt_of_at h.cell
  have hrow1 : RowAt (w.alloc (.cells E 38)) blk (.slice sa n sc) items lost := ⟨(Below.heap_alloc _ _ _ hbl).trans h.cell, h.sl.chg ((Chg.refl (fun _ => False) w).alloc _) (fun _ _ h => h)⟩
  have hd1 : (w.alloc (.cells E 38)).cell? ⟨blk, 0, none⟩ = some (.slice sa n sc) := by simp [World.cell?, hrow1.cell]
  have hd2 : (w.alloc (.cells E 38)).cell? ⟨blk, 1, none⟩ = some (.int .u64 lost) := by simp [World.cell?, hrow1.cell]
  have hf2 : (w.alloc (.cells E 38)).frozen? ⟨blk, 1, none⟩ = false := by simp [World.frozen?, hrow1.cell]
  have hw1 : IntKind.i64.wrap (16 - (n : Int)) = 16 - (n : Int) := IntWalk.i64_in _ ⟨by omega, by omega⟩
  have HF : Hid (Pushed blk (.slice sa n sc) w items (lost + 1) ((w.alloc (.cells E 38)).setCell ⟨blk, 1, none⟩ (.int .u64 ((lost + 1 : Nat) : Int)))) :=
    ⟨_, hrow1.setLost (lost + 1), ((Chg.refl _ w).alloc _).setCell (.inl (.inl rfl)) _, .inl rfl⟩
  have hlost1 : decide ((0 : Int) < (lost : Int)) = true := by simp; omega
  have HCM : Hid (∀ u, (w.alloc (.cells E 38)).setCell ⟨blk, 1, none⟩ u = (w.setCell ⟨blk, 1, none⟩ u).alloc (.cells E 38)) := fun u => World.setCell_alloc_past _ _ _ _ hbl
  clear hrow1 h hlen
  go_enter Try.func27, Try.ntmps27
  go_wp2
  (try simp only [Exit.inBlock, Exit.then])
  refine bodyPost_ret (results_none rfl _ _ _) rfl ?_
  exact ⟨rfl, by rw [← HCM.out]; exact HF.out⟩

set_option maxRecDepth 100000 in
set_option maxHeartbeats 4000000 in
theorem push_full (blk : Nat) (sa : Option Addr) (n sc : Nat) (items : List It) (E : Array Value) (w : World) (h : RowAt w blk (.slice sa n sc) items 0) (hlen : n = items.length) (hn : n = 16) :
    Calls Try.prog 27 #[.pointer (some ⟨blk, 0, none⟩), .agg E] w fun x w' => x = .returned (.tuple #[]) ∧ Pushed blk (.slice sa n sc) w items 1 w' := by
  subst hn
  have hbl := lt_of_at h.cell
  have hrow1 : RowAt (w.alloc (.cells E 38)) blk (.slice sa 16 sc) items 0 := ⟨(Below.heap_alloc _ _ _ hbl).trans h.cell, h.sl.chg ((Chg.refl (fun _ => False) w).alloc _) (fun _ _ h => h)⟩
  have hd1 : (w.alloc (.cells E 38)).cell? ⟨blk, 0, none⟩ = some (.slice sa 16 sc) := by simp [World.cell?, hrow1.cell]
  have hd2 : (w.alloc (.cells E 38)).cell? ⟨blk, 1, none⟩ = some (.int .u64 0) := by simp [World.cell?, hrow1.cell]
  have hf2 : (w.alloc (.cells E 38)).frozen? ⟨blk, 1, none⟩ = false := by simp [World.frozen?, hrow1.cell]
  have HF : Hid (Pushed blk (.slice sa 16 sc) w items 1 ((w.alloc (.cells E 38)).setCell ⟨blk, 1, none⟩ (.int .u64 1))) :=
    ⟨_, hrow1.setLost 1, ((Chg.refl _ w).alloc _).setCell (.inl (.inl rfl)) _, .inl rfl⟩
  have HCM : Hid (∀ u, (w.alloc (.cells E 38)).setCell ⟨blk, 1, none⟩ u = (w.setCell ⟨blk, 1, none⟩ u).alloc (.cells E 38)) := fun u => World.setCell_alloc_past _ _ _ _ hbl
  clear hrow1 h hlen
  go_enter Try.func27, Try.ntmps27
  go_wp2
  (try simp only [Exit.inBlock, Exit.then])
  refine bodyPost_ret (results_none rfl _ _ _) rfl ?_
  exact ⟨rfl, by rw [← HCM.out]; exact HF.out⟩

/-- PUSH -/
theorem push_any (blk : Nat) (sv : Value) (items : List It) (lost : Nat) (e : Ev) (w : World) (h : RowAt w blk sv items lost) (hn : items.length ≤ 16) (hbig : lost < 1000000) :
    Calls Try.prog 27 #[.pointer (some ⟨blk, 0, none⟩), .agg e.cells.toArray] w fun x w' => x = .returned (.tuple #[]) ∧ Pushed blk sv w (pushI (items, lost) e).1 (pushI (items, lost) e).2 w' := by
  obtain ⟨sa, sc, hsv⟩ := h.sl.shape
  rw [List.length_map] at hsv
  subst hsv
  unfold pushI
  simp only
  split
  · split
    · exact push_lost blk sa _ sc items lost _ w h rfl (by omega) hn (by omega) hbig
    · exact push_gap blk sa _ sc items lost e w h rfl (by omega) (by omega)
  · obtain rfl : lost = 0 := by omega
    split
    · exact push_full blk sa _ sc items _ w h rfl (by omega)
    · exact push_room blk sa _ sc items e w h rfl (by omega)
theorem pushI_le (p : List It × Nat) (e : Ev) (h : p.1.length ≤ 16) : (pushI p e).1.length ≤ 16 := by
  unfold pushI; split <;> split <;> simp <;> omega
theorem pushI_lost (p : List It × Nat) (e : Ev) : (pushI p e).2 ≤ p.2 + 1 := by
  unfold pushI; split <;> split <;> simp
end Go.Proofs.Ytdljloohgidbfaa
