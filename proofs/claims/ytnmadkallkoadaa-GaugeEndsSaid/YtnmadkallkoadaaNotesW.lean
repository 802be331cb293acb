/-
  The walk of the law on noted measures.
-/
import Derived.Test.YtnmadkallkoadaaFold
import Derived.Test.YtnmadkallkoadaaInv
namespace Go.Proofs.Ytnmadkallkoadaa
open Go.RowKit Go.GMath
attribute [local go_sem] run25 run40 run_store_float

def upTo (zs : List Nat) (k : Nat) : G := (zs.take k).foldl G.step G.zero
theorem upTo_succ (zs : List Nat) (k : Nat) (h : k < zs.length) : upTo zs (k + 1) = (upTo zs k).step (zs.getD k 0) := by
  unfold upTo
  rw [List.take_succ_eq_append_getElem h, List.foldl_append]
  simp [h]
theorem upTo_ok (zs : List Nat) (hz : ∀ x ∈ zs, U64 x) : ∀ k, k ≤ zs.length → (upTo zs k).OK k := by
  intro k
  induction k with
  | zero => intro _; exact zero_ok
  | succ k ih =>
    intro h
    rw [upTo_succ zs k h]
    exact step_ok (ih (by omega)) (hz _ (by rw [List.getD_eq_getElem?_getD, List.getElem?_eq_getElem h]; exact List.getElem_mem _))

/-- the cells of a gauge -/
def G.cells (g : G) : Array Value := #[.int .u64 g.c, .int .u64 g.d, .float .f64 g.l, .float .f64 g.u, .float .f64 g.s]
/-- what holds inside the round's region -/
structure NI (P : Addr) (x : Nat) (W : World) (g g' : G) (p q : Bool) (w : World) : Prop where
  hx : w.cell? P = some (.float .f64 x)
  below : Below W.heap.size W w
  size : W.heap.size + 2 ≤ w.heap.size
  hg : w.heap[W.heap.size]? = some (.cells (if p then g'.cells else g.cells) 36)
  hh : w.heap[W.heap.size + 1]? = some (.cells (if q then g'.cells else g.cells) 37)
theorem NI.fresh {P : Addr} {x : Nat} {W : World} {g g' : G} {p q : Bool} {w w' : World} (h : NI P x W g g' p q w) (k : Fresh w w') : NI P x W g g' p q w' :=
  ⟨k.cell h.hx, h.below.trans (k.2.mono (by have := h.size; omega)), Nat.le_trans h.size k.2.size, (k.2.block _ (by have := h.size; omega)).trans h.hg, (k.2.block _ (by have := h.size; omega)).trans h.hh⟩

theorem NI.put {P : Addr} {x : Nat} {W : World} {g g' : G} {L : Array Bool} {w : World} {i : Nat} (h12 : i ≠ 12) (h13 : i ≠ 13) (h : NI P x W g g' (L.getD 12 false) (L.getD 13 false) w) :
    NI P x W g g' ((L.setIfInBounds i true).getD 12 false) ((L.setIfInBounds i true).getD 13 false) w := by
  rw [Go.Drawn.set_ne h12, Go.Drawn.set_ne h13]; exact h

/-- a whole gauge stored -/
def World.setG (w : World) (B : Nat) (g' : G) : World := ((((w.setCell ⟨B, 0, none⟩ (.int .u64 g'.c)).setCell ⟨B, 1, none⟩ (.int .u64 g'.d)).setCell ⟨B, 2, none⟩ (.float .f64 g'.l)).setCell ⟨B, 3, none⟩ (.float .f64 g'.u)).setCell ⟨B, 4, none⟩ (.float .f64 g'.s)
theorem setG_at {w : World} {B : Nat} {g g' : G} {t : TypeId} (h : w.heap[B]? = some (.cells g.cells t)) : (World.setG w B g').heap[B]? = some (.cells g'.cells t) := by
  simp [World.setG, World.setCell, Array.getElem?_modify, h, G.cells]
theorem setG_far {w : World} {B k : Nat} {g' : G} (h : k ≠ B) : (World.setG w B g').heap[k]? = w.heap[k]? := by
  simp [World.setG, World.setCell, Array.getElem?_modify, h.symm]
theorem setG_size {w : World} {B : Nat} {g' : G} : (World.setG w B g').heap.size = w.heap.size := by simp [World.setG, World.setCell]
theorem setG_below {w : World} {B : Nat} {g' : G} : Below B w (World.setG w B g') :=
  (((((Below.refl B w).setCell (p := ⟨B, 0, none⟩) (Nat.le_refl _) _).setCell (p := ⟨B, 1, none⟩) (Nat.le_refl _) _).setCell (p := ⟨B, 2, none⟩) (Nat.le_refl _) _).setCell (p := ⟨B, 3, none⟩) (Nat.le_refl _) _).setCell (p := ⟨B, 4, none⟩) (Nat.le_refl _) _
theorem NI.st12 {P : Addr} {x : Nat} {W : World} {g g' : G} {L : Array Bool} {w : World} {n : Nat} (hP : P.block < W.heap.size) (hL : L.size = n) (hn : 12 < n) (h12 : L.getD 12 false = false) (h : NI P x W g g' (L.getD 12 false) (L.getD 13 false) w) :
    NI P x W g g' ((L.setIfInBounds 12 true).getD 12 false) ((L.setIfInBounds 12 true).getD 13 false) (World.setG w W.heap.size g') := by
  rw [Go.Drawn.set_ne (i := 12) (j := 13) (by decide), Go.Drawn.set_eq hL hn]
  rw [h12] at h
  have hs := h.size
  exact ⟨(World.cell?_of_block (setG_far (by have := hP; omega))).trans h.hx, h.below.trans setG_below, by rw [setG_size]; exact hs, setG_at h.hg, (setG_far (by omega)).trans h.hh⟩
theorem NI.st13 {P : Addr} {x : Nat} {W : World} {g g' : G} {L : Array Bool} {w : World} {n : Nat} (hP : P.block < W.heap.size) (hL : L.size = n) (hn : 13 < n) (h13 : L.getD 13 false = false) (h : NI P x W g g' (L.getD 12 false) (L.getD 13 false) w) :
    NI P x W g g' ((L.setIfInBounds 13 true).getD 12 false) ((L.setIfInBounds 13 true).getD 13 false) (World.setG w (W.heap.size + 1) g') := by
  rw [Go.Drawn.set_ne (i := 13) (j := 12) (by decide), Go.Drawn.set_eq hL hn]
  rw [h13] at h
  have hs := h.size
  exact ⟨(World.cell?_of_block (setG_far (by have := hP; omega))).trans h.hx, h.below.trans (setG_below.mono (by omega)), by rw [setG_size]; exact hs, (setG_far (by omega)).trans h.hg, setG_at h.hh⟩

set_option maxRecDepth 100000 in
set_option maxHeartbeats 4000000 in
theorem notes_walk (b off len cap : Nat) (zs : List Nat) (w : World) (hl : zs.length = len) (hm : len ≤ maxLen) (hz : ∀ x ∈ zs, U64 x)
    (hc : ∀ k, k < len → w.cell? ⟨b, off + k, none⟩ = some (.float .f64 (zs.getD k 0))) :
    Calls Try.prog 5 #[.slice (some ⟨b, off, none⟩) len cap] w fun e w' => e = .returned (.bool true) ∧ Below w.heap.size w w' := by
  unfold maxLen at hm
  have HZ : Hid (∀ x ∈ zs, U64 x) := hz
  have HL : Hid (zs.length = len) := hl
  clear hz hl
  go_enter Try.func5, Try.ntmps5
  go_wp2
  go_loopw [5] (fun i wr => ∃ k : Nat, k ≤ len ∧ k ≤ 200 ∧ i = .int .i64 k ∧ Below w.heap.size w wr ∧ w.heap.size + 2 ≤ wr.heap.size ∧
      wr.heap[w.heap.size]? = some (.cells #[.int .u64 (upTo zs k).c, .int .u64 (upTo zs k).d, .float .f64 (upTo zs k).l, .float .f64 (upTo zs k).u, .float .f64 (upTo zs k).s] 36) ∧
      wr.heap[w.heap.size + 1]? = some (.cells #[.int .u64 (upTo zs k).c, .int .u64 (upTo zs k).d, .float .f64 (upTo zs k).l, .float .f64 (upTo zs k).u, .float .f64 (upTo zs k).s] 37)) (fun i _ => 200 - (intOf i).toNat)
  case atStart =>
    refine ⟨0, by omega, by omega, rfl, ?_, by simp, ?_, ?_⟩
    · exact ((Below.refl _ _).alloc (Nat.le_refl _) _).alloc (by simp) _
    · rw [Below.heap_alloc _ _ _ (by simp)]
      exact heap_alloc_new w _
    · have h := heap_alloc_new (w.alloc (Obj.cells #[Value.int IntKind.u64 0, Value.int IntKind.u64 0, Value.float FloatKind.f64 0, Value.float FloatKind.f64 0, Value.float FloatKind.f64 0] 36)) (Obj.cells #[Value.int IntKind.u64 0, Value.int IntKind.u64 0, Value.float FloatKind.f64 0, Value.float FloatKind.f64 0, Value.float FloatKind.f64 0] 37)
      rw [show (w.alloc (Obj.cells #[Value.int IntKind.u64 0, Value.int IntKind.u64 0, Value.float FloatKind.f64 0, Value.float FloatKind.f64 0, Value.float FloatKind.f64 0] 36)).heap.size = w.heap.size + 1 by simp] at h
      exact h
  case round =>
    obtain ⟨k, hk, hk2, rfl, hB, hsz, hg, hh⟩ := hrel
    by_cases hlt : k < len
    · by_cases hlt2 : k < 200
      · have hcell := hc k hlt
        have HC : Hid (∀ k, k < len → w.cell? ⟨b, off + k, none⟩ = some (.float .f64 (zs.getD k 0))) := hc
        clear hc
        have hlb := World.block_lt_of_cell? w _ hcell
        simp only at hlb
        have hx : wr.cell? ⟨b, off + k, none⟩ = some (.float .f64 (zs.getD k 0)) := (hB.cell (by exact hlb)).trans hcell
        have HB : Hid (Below w.heap.size w wr) := hB
        clear hB hcell
        have hxu : Hid (U64 (zs.getD k 0)) := HZ.out _ (by rw [List.getD_eq_getElem?_getD, List.getElem?_eq_getElem (by rw [HL.out]; exact hlt)]; exact List.getElem_mem _)
        have hok : Hid ((upTo zs k).OK k) := upTo_ok zs HZ.out k (by rw [HL.out]; exact hk)
        have hnext : Hid (upTo zs (k + 1) = (upTo zs k).step (zs.getD k 0)) := upTo_succ zs k (by rw [HL.out]; exact hlt)
        have HI : Hid (NI ⟨b, off + k, none⟩ (zs.getD k 0) w (upTo zs k) ((upTo zs k).step (zs.getD k 0)) false false wr) := ⟨hx, HB.out, hsz, hg, hh⟩
        clear hx hg hh
        generalize zs.getD k 0 = x at *
        generalize upTo zs k = g at *
        go_wp2_with fail
        refine Go.Drawn.wp_region_inv (fun i => ([.agg g.cells, .slice (some ⟨b, off, none⟩) len cap, .int .i64 k, .pointer (some ⟨b, off + k, none⟩), .float .f64 x, .agg (g.step x).cells, .agg g.cells, .slice (some ⟨b, off, none⟩) len cap, .int .i64 k, .pointer (some ⟨b, off + k, none⟩), .float .f64 x, .agg (g.step x).cells, undef, undef] : List Value).getD i undef)
          (fun L w' => NI ⟨b, off + k, none⟩ x w g (g.step x) (L.getD 12 false) (L.getD 13 false) w') (by kernel_rfl) (by kernel_rfl) (by kernel_rfl) ?_ ?_ ?_
        · intro L hL
          rw [hL, hL]
          exact HI.out.fresh (Fresh.refl wr).drew
        · intro L w3 hall hI3
          rw [hall 12 (by decide), hall 13 (by decide)] at hI3
          simp only [Go.Drawn.putAll, Act.put, List.getD_cons_zero, List.getD_cons_succ, List.setIfInBounds_toArray, List.set_cons_zero, List.set_cons_succ]
          have hg := hI3.hg
          have hh := hI3.hh
          have HB3 : Hid (Below w.heap.size w w3) := hI3.below
          have HS3 : Hid (w.heap.size + 2 ≤ w3.heap.size) := hI3.size
          simp only [if_true] at hg hh
          have HG : Hid (w3.heap[w.heap.size]? = some (.cells (g.step x).cells 36)) := hg
          have HH : Hid (w3.heap[w.heap.size + 1]? = some (.cells (g.step x).cells 37)) := hh
          have hok' : Hid ((g.step x).OK (k + 1)) := step_ok hok.out hxu.out
          generalize g.step x = g' at *
          have c0 : w3.cell? ⟨w.heap.size, 0, none⟩ = some (.int .u64 g'.c) := by simp [World.cell?, hg, G.cells]
          have c1 : w3.cell? ⟨w.heap.size, 1, none⟩ = some (.int .u64 g'.d) := by simp [World.cell?, hg, G.cells]
          have c2 : w3.cell? ⟨w.heap.size, 2, none⟩ = some (.float .f64 g'.l) := by simp [World.cell?, hg, G.cells]
          have c3 : w3.cell? ⟨w.heap.size, 3, none⟩ = some (.float .f64 g'.u) := by simp [World.cell?, hg, G.cells]
          have c4 : w3.cell? ⟨w.heap.size, 4, none⟩ = some (.float .f64 g'.s) := by simp [World.cell?, hg, G.cells]
          have d0 : w3.cell? ⟨w.heap.size + 1, 0, none⟩ = some (.int .u64 g'.c) := by simp [World.cell?, hh, G.cells]
          have d1 : w3.cell? ⟨w.heap.size + 1, 1, none⟩ = some (.int .u64 g'.d) := by simp [World.cell?, hh, G.cells]
          have d2 : w3.cell? ⟨w.heap.size + 1, 2, none⟩ = some (.float .f64 g'.l) := by simp [World.cell?, hh, G.cells]
          have d3 : w3.cell? ⟨w.heap.size + 1, 3, none⟩ = some (.float .f64 g'.u) := by simp [World.cell?, hh, G.cells]
          have d4 : w3.cell? ⟨w.heap.size + 1, 4, none⟩ = some (.float .f64 g'.s) := by simp [World.cell?, hh, G.cells]
          have e2 := fun w => rsame_any g'.l g'.l w hok'.out.ul hok'.out.ul
          have e3 := fun w => rsame_any g'.u g'.u w hok'.out.uu hok'.out.uu
          have e4 := fun w => rsame_any g'.s g'.s w hok'.out.us hok'.out.us
          simp only [decide_true] at e2 e3 e4
          generalize g.cells = gc at *
          have hgc' : Hid (g'.cells = g'.cells) := rfl
          clear hall hI3 hg hh hgc'
          generalize hGC : g'.cells = gc' at *
          have HGC : Hid (g'.cells = gc') := hGC
          clear hGC
          go_wp2_with fail
          refine (e2 _).mono ?_; rintro e w' ⟨rfl, rfl⟩
          go_wp2_with fail
          refine (e3 _).mono ?_; rintro e w' ⟨rfl, rfl⟩
          go_wp2_with fail
          refine (e4 _).mono ?_; rintro e w' ⟨rfl, rfl⟩
          clear e2 e3 e4
          go_wp2_with fail
          go_roundw
          case rel =>
            have hG := HG.out
            have hH := HH.out
            rw [← HGC.out] at hG hH
            exact ⟨k + 1, by omega, by omega, by go_num, HB3.out, HS3.out, by rw [hnext.out]; exact hG, by rw [hnext.out]; exact hH⟩
          case measure => simp [intOf]; omega
        · refine ⟨?_, ?_, ?_, ?_, ?_, ?_, ?_, ?_, ?_, ?_, ?_, ?_, ?_, ?_, trivial⟩
          · intro L a w' hL hsh hfr hI hu hu' hdeps K hK
            have h12 := hsh.not (i := 0) (j := 5) (by kernel_rfl) hu
            have h12 := hsh.not (i := 5) (j := 11) (by kernel_rfl) h12
            have h12 := hsh.not (i := 11) (j := 12) (by kernel_rfl) h12
            have s3 := hfr.old (t := 3) (by kernel_rfl) (v := .pointer (some ⟨w.heap.size, 0, none⟩)) rfl
            have hg := hI.hg
            rw [h12] at hg
            have c0 : w'.cell? ⟨w.heap.size, 0, none⟩ = some (.int .u64 (g).c) := by simp [World.cell?, hg, G.cells]
            have c1 : w'.cell? ⟨w.heap.size, 1, none⟩ = some (.int .u64 (g).d) := by simp [World.cell?, hg, G.cells]
            have c2 : w'.cell? ⟨w.heap.size, 2, none⟩ = some (.float .f64 (g).l) := by simp [World.cell?, hg, G.cells]
            have c3 : w'.cell? ⟨w.heap.size, 3, none⟩ = some (.float .f64 (g).u) := by simp [World.cell?, hg, G.cells]
            have c4 : w'.cell? ⟨w.heap.size, 4, none⟩ = some (.float .f64 (g).s) := by simp [World.cell?, hg, G.cells]
            have hK' := hK w' (NI.put (by decide) (by decide) hI)
            clear hL hsh hfr hI hu hu' hdeps hK hg
            simp only [Region.wanted, if_true]
            go_simp
            exact hK'
          · intro L a w' hL hsh hfr hI hu hu' hdeps K hK
            have s0 := hfr.old (t := 0) (by kernel_rfl) (v := .slice (some ⟨b, off, none⟩) len cap) rfl
            have hK' := hK w' (NI.put (by decide) (by decide) hI)
            clear hL hsh hfr hI hu hu' hdeps hK
            simp only [Region.wanted, if_true]
            go_simp
            exact hK'
          · intro L a w' hL hsh hfr hI hu hu' hdeps K hK
            have s5 := hfr.old (t := 5) (by kernel_rfl) (v := .int .i64 k) rfl
            have hK' := hK w' (NI.put (by decide) (by decide) hI)
            clear hL hsh hfr hI hu hu' hdeps hK
            simp only [Region.wanted, if_true]
            go_simp
            exact hK'
          · intro L a w' hL hsh hfr hI hu hu' hdeps K hK
            have s17 := hfr.got (j := 1) (d := 17) (by kernel_rfl) (Go.Drawn.dep_of hdeps (by kernel_rfl)) (v := .slice (some ⟨b, off, none⟩) len cap) rfl
            have s18 := hfr.got (j := 2) (d := 18) (by kernel_rfl) (Go.Drawn.dep_of hdeps (by kernel_rfl)) (v := .int .i64 k) rfl
            have i0 : (0 : Int) ≤ (k : Int) := by omega
            have i1 : (k : Int) < (len : Int) := by omega
            have hK' := hK w' (NI.put (by decide) (by decide) hI)
            clear hL hsh hfr hI hu hu' hdeps hK
            simp only [Region.wanted, if_true]
            go_simp
            exact hK'
          · intro L a w' hL hsh hfr hI hu hu' hdeps K hK
            have s19 := hfr.got (j := 3) (d := 19) (by kernel_rfl) (Go.Drawn.dep_of hdeps (by kernel_rfl)) (v := .pointer (some ⟨b, off + k, none⟩)) rfl
            have hx := hI.hx
            have hK' := hK w' (NI.put (by decide) (by decide) hI)
            clear hL hsh hfr hI hu hu' hdeps hK
            simp only [Region.wanted, if_true]
            go_simp
            exact hK'
          · intro L a w' hL hsh hfr hI hu hu' hdeps K hK
            have s16 := hfr.got (j := 0) (d := 16) (by kernel_rfl) (Go.Drawn.dep_of hdeps (by kernel_rfl)) (v := .agg g.cells) rfl
            have s20 := hfr.got (j := 4) (d := 20) (by kernel_rfl) (Go.Drawn.dep_of hdeps (by kernel_rfl)) (v := .float .f64 x) rfl
            unfold G.cells at s16
            have hK' := fun w1 (hf : Fresh w' w1) => hK w1 (NI.put (by decide) (by decide) (hI.fresh hf))
            clear hL hsh hfr hI hu hu' hdeps hK
            simp only [Region.wanted, if_true]
            go_simp
            refine (note_any g k x _ hok.out (by omega) hxu.out).mono ?_
            rintro e w1 ⟨rfl, hf⟩
            exact hK' w1 hf
          · intro L a w' hL hsh hfr hI hu hu' hdeps K hK
            have h12 := hsh.not (i := 6) (j := 11) (by kernel_rfl) hu
            have h12 := hsh.not (i := 11) (j := 13) (by kernel_rfl) h12
            have s4 := hfr.old (t := 4) (by kernel_rfl) (v := .pointer (some ⟨w.heap.size + 1, 0, none⟩)) rfl
            have hg := hI.hh
            rw [h12] at hg
            have c0 : w'.cell? ⟨w.heap.size + 1, 0, none⟩ = some (.int .u64 (g).c) := by simp [World.cell?, hg, G.cells]
            have c1 : w'.cell? ⟨w.heap.size + 1, 1, none⟩ = some (.int .u64 (g).d) := by simp [World.cell?, hg, G.cells]
            have c2 : w'.cell? ⟨w.heap.size + 1, 2, none⟩ = some (.float .f64 (g).l) := by simp [World.cell?, hg, G.cells]
            have c3 : w'.cell? ⟨w.heap.size + 1, 3, none⟩ = some (.float .f64 (g).u) := by simp [World.cell?, hg, G.cells]
            have c4 : w'.cell? ⟨w.heap.size + 1, 4, none⟩ = some (.float .f64 (g).s) := by simp [World.cell?, hg, G.cells]
            have hK' := hK w' (NI.put (by decide) (by decide) hI)
            clear hL hsh hfr hI hu hu' hdeps hK hg
            simp only [Region.wanted, if_true]
            go_simp
            exact hK'
          · intro L a w' hL hsh hfr hI hu hu' hdeps K hK
            have s0 := hfr.old (t := 0) (by kernel_rfl) (v := .slice (some ⟨b, off, none⟩) len cap) rfl
            have hK' := hK w' (NI.put (by decide) (by decide) hI)
            clear hL hsh hfr hI hu hu' hdeps hK
            simp only [Region.wanted, if_true]
            go_simp
            exact hK'
          · intro L a w' hL hsh hfr hI hu hu' hdeps K hK
            have s5 := hfr.old (t := 5) (by kernel_rfl) (v := .int .i64 k) rfl
            have hK' := hK w' (NI.put (by decide) (by decide) hI)
            clear hL hsh hfr hI hu hu' hdeps hK
            simp only [Region.wanted, if_true]
            go_simp
            exact hK'
          · intro L a w' hL hsh hfr hI hu hu' hdeps K hK
            have s23 := hfr.got (j := 7) (d := 23) (by kernel_rfl) (Go.Drawn.dep_of hdeps (by kernel_rfl)) (v := .slice (some ⟨b, off, none⟩) len cap) rfl
            have s24 := hfr.got (j := 8) (d := 24) (by kernel_rfl) (Go.Drawn.dep_of hdeps (by kernel_rfl)) (v := .int .i64 k) rfl
            have i0 : (0 : Int) ≤ (k : Int) := by omega
            have i1 : (k : Int) < (len : Int) := by omega
            have hK' := hK w' (NI.put (by decide) (by decide) hI)
            clear hL hsh hfr hI hu hu' hdeps hK
            simp only [Region.wanted, if_true]
            go_simp
            exact hK'
          · intro L a w' hL hsh hfr hI hu hu' hdeps K hK
            have s25 := hfr.got (j := 9) (d := 25) (by kernel_rfl) (Go.Drawn.dep_of hdeps (by kernel_rfl)) (v := .pointer (some ⟨b, off + k, none⟩)) rfl
            have hx := hI.hx
            have hK' := hK w' (NI.put (by decide) (by decide) hI)
            clear hL hsh hfr hI hu hu' hdeps hK
            simp only [Region.wanted, if_true]
            go_simp
            exact hK'
          · intro L a w' hL hsh hfr hI hu hu' hdeps K hK
            have s22 := hfr.got (j := 6) (d := 22) (by kernel_rfl) (Go.Drawn.dep_of hdeps (by kernel_rfl)) (v := .agg g.cells) rfl
            have s26 := hfr.got (j := 10) (d := 26) (by kernel_rfl) (Go.Drawn.dep_of hdeps (by kernel_rfl)) (v := .float .f64 x) rfl
            unfold G.cells at s22
            have hK' := fun w1 (hf : Fresh w' w1) => hK w1 (NI.put (by decide) (by decide) (hI.fresh hf))
            clear hL hsh hfr hI hu hu' hdeps hK
            simp only [Region.wanted, if_true]
            go_simp
            refine (rnote_any g k x _ hok.out (by omega) hxu.out).mono ?_
            rintro e w1 ⟨rfl, hf⟩
            exact hK' w1 hf
          · intro L a w' hL hsh hfr hI hu hu' hdeps K hK
            have s3 := hfr.old (t := 3) (by kernel_rfl) (v := .pointer (some ⟨w.heap.size, 0, none⟩)) rfl
            have s21 := hfr.got (j := 5) (d := 21) (by kernel_rfl) (Go.Drawn.dep_of hdeps (by kernel_rfl)) (v := .agg (g.step x).cells) rfl
            unfold G.cells at s21
            have hg := hI.hg
            rw [hu] at hg
            have c0 : w'.cell? ⟨w.heap.size, 0, none⟩ = some (.int .u64 (g).c) := by simp [World.cell?, hg, G.cells]
            have c1 : w'.cell? ⟨w.heap.size, 1, none⟩ = some (.int .u64 (g).d) := by simp [World.cell?, hg, G.cells]
            have c2 : w'.cell? ⟨w.heap.size, 2, none⟩ = some (.float .f64 (g).l) := by simp [World.cell?, hg, G.cells]
            have c3 : w'.cell? ⟨w.heap.size, 3, none⟩ = some (.float .f64 (g).u) := by simp [World.cell?, hg, G.cells]
            have c4 : w'.cell? ⟨w.heap.size, 4, none⟩ = some (.float .f64 (g).s) := by simp [World.cell?, hg, G.cells]
            have f0 : ∀ o, w'.frozen? ⟨w.heap.size, o, none⟩ = false := fun o => by simp [World.frozen?, hg, G.cells]
            have hK' := hK _ (NI.st12 (by exact hlb) hL (by decide) hu hI)
            clear hL hsh hfr hI hu hu' hdeps hK hg
            simp only [Region.wanted, if_true]
            go_simp
            exact hK'
          · intro L a w' hL hsh hfr hI hu hu' hdeps K hK
            have s4 := hfr.old (t := 4) (by kernel_rfl) (v := .pointer (some ⟨w.heap.size + 1, 0, none⟩)) rfl
            have s27 := hfr.got (j := 11) (d := 27) (by kernel_rfl) (Go.Drawn.dep_of hdeps (by kernel_rfl)) (v := .agg (g.step x).cells) rfl
            unfold G.cells at s27
            have hg := hI.hh
            rw [hu] at hg
            have c0 : w'.cell? ⟨w.heap.size + 1, 0, none⟩ = some (.int .u64 (g).c) := by simp [World.cell?, hg, G.cells]
            have c1 : w'.cell? ⟨w.heap.size + 1, 1, none⟩ = some (.int .u64 (g).d) := by simp [World.cell?, hg, G.cells]
            have c2 : w'.cell? ⟨w.heap.size + 1, 2, none⟩ = some (.float .f64 (g).l) := by simp [World.cell?, hg, G.cells]
            have c3 : w'.cell? ⟨w.heap.size + 1, 3, none⟩ = some (.float .f64 (g).u) := by simp [World.cell?, hg, G.cells]
            have c4 : w'.cell? ⟨w.heap.size + 1, 4, none⟩ = some (.float .f64 (g).s) := by simp [World.cell?, hg, G.cells]
            have f0 : ∀ o, w'.frozen? ⟨w.heap.size + 1, o, none⟩ = false := fun o => by simp [World.frozen?, hg, G.cells]
            have hK' := hK _ (NI.st13 (by exact hlb) hL (by decide) hu hI)
            clear hL hsh hfr hI hu hu' hdeps hK hg
            simp only [Region.wanted, if_true]
            go_simp
            exact hK'
      · have HB : Hid (Below w.heap.size w wr) := hB
        have e1 := fun w => alive_any w
        clear hB hg hh hc
        go_wp2_with fail
        refine (e1 _).mono ?_; rintro e w' ⟨rfl, hf⟩
        have HF : Hid (Fresh wr w') := hf
        clear hf e1
        go_wp2
        go_ret
        exact ⟨rfl, HB.out.trans (HF.out.2.mono (by omega))⟩
    · have HB : Hid (Below w.heap.size w wr) := hB
      have e1 := fun w => alive_any w
      clear hB hg hh hc
      go_wp2_with fail
      refine (e1 _).mono ?_; rintro e w' ⟨rfl, hf⟩
      have HF : Hid (Fresh wr w') := hf
      clear hf e1
      go_wp2
      go_ret
      exact ⟨rfl, HB.out.trans (HF.out.2.mono (by omega))⟩

set_option maxRecDepth 100000 in
set_option maxHeartbeats 1000000 in
theorem notes_none (o : Option Addr) (cap : Nat) (w : World) : Calls Try.prog 5 #[.slice o 0 cap] w fun e w' => e = .returned (.bool true) ∧ Below w.heap.size w w' := by
  have e1 := fun w => alive_any w
  go_enter Try.func5, Try.ntmps5
  go_wp2
  refine wp_loop_rounds 1 ?_
  rw [rounds_succ]
  go_wp2_with fail
  refine (e1 _).mono ?_; rintro e w' ⟨rfl, hf⟩
  have HF : Hid (Fresh _ w') := hf
  clear hf e1
  go_wp2
  go_ret
  exact ⟨rfl, (((Below.refl _ _).alloc (Nat.le_refl _) _).alloc (by simp) _).trans (HF.out.2.mono (by simp; omega))⟩
end Go.Proofs.Ytnmadkallkoadaa
