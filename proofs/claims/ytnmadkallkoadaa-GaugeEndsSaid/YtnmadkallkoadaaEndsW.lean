/-
  The walk of the law on what a gauge has.
-/
import Derived.Test.YtnmadkallkoadaaEnds
import Derived.Test.YtnmadkallkoadaaLaws3
import Derived.Test.YtnmadkallkoadaaNotesW
namespace Go.Proofs.Ytnmadkallkoadaa
open Go.RowKit Go.GMath
attribute [local go_sem] run25 run40 run_store_float

structure N2 (P Q : Addr) (x y : Nat) (W : World) (g g' h h' : G) (p q : Bool) (w : World) : Prop where
  hx : w.cell? P = some (.float .f64 x)
  hy : w.cell? Q = some (.float .f64 y)
  below : Below W.heap.size W w
  size : W.heap.size + 2 ≤ w.heap.size
  hg : w.heap[W.heap.size]? = some (.cells (if p then g'.cells else g.cells) 36)
  hh : w.heap[W.heap.size + 1]? = some (.cells (if q then h'.cells else h.cells) 36)
section
variable {P Q : Addr} {x y : Nat} {W : World} {g g' h h' : G}
theorem N2.fresh {p q : Bool} {w w' : World} (n : N2 P Q x y W g g' h h' p q w) (k : Fresh w w') : N2 P Q x y W g g' h h' p q w' :=
  ⟨k.cell n.hx, k.cell n.hy, n.below.trans (k.2.mono (by have := n.size; omega)), Nat.le_trans n.size k.2.size, (k.2.block _ (by have := n.size; omega)).trans n.hg, (k.2.block _ (by have := n.size; omega)).trans n.hh⟩
theorem N2.put {L : Array Bool} {w : World} {i : Nat} (h18 : i ≠ 18) (h19 : i ≠ 19) (n : N2 P Q x y W g g' h h' (L.getD 18 false) (L.getD 19 false) w) :
    N2 P Q x y W g g' h h' ((L.setIfInBounds i true).getD 18 false) ((L.setIfInBounds i true).getD 19 false) w := by
  rw [Go.Drawn.set_ne h18, Go.Drawn.set_ne h19]; exact n
theorem N2.st18 {L : Array Bool} {w : World} {n : Nat} (hP : P.block < W.heap.size ∧ Q.block < W.heap.size) (hL : L.size = n) (hn : 18 < n) (hu : L.getD 18 false = false) (k : N2 P Q x y W g g' h h' (L.getD 18 false) (L.getD 19 false) w) :
    N2 P Q x y W g g' h h' ((L.setIfInBounds 18 true).getD 18 false) ((L.setIfInBounds 18 true).getD 19 false) (World.setG w W.heap.size g') := by
  rw [Go.Drawn.set_ne (i := 18) (j := 19) (by decide), Go.Drawn.set_eq hL hn]
  rw [hu] at k
  have hs := k.size
  exact ⟨(World.cell?_of_block (setG_far (by omega))).trans k.hx, (World.cell?_of_block (setG_far (by omega))).trans k.hy, k.below.trans setG_below, by rw [setG_size]; exact hs, setG_at k.hg, (setG_far (by omega)).trans k.hh⟩
theorem N2.st19 {L : Array Bool} {w : World} {n : Nat} (hP : P.block < W.heap.size ∧ Q.block < W.heap.size) (hL : L.size = n) (hn : 19 < n) (hu : L.getD 19 false = false) (k : N2 P Q x y W g g' h h' (L.getD 18 false) (L.getD 19 false) w) :
    N2 P Q x y W g g' h h' ((L.setIfInBounds 19 true).getD 18 false) ((L.setIfInBounds 19 true).getD 19 false) (World.setG w (W.heap.size + 1) h') := by
  rw [Go.Drawn.set_ne (i := 19) (j := 18) (by decide), Go.Drawn.set_eq hL hn]
  rw [hu] at k
  have hs := k.size
  exact ⟨(World.cell?_of_block (setG_far (by omega))).trans k.hx, (World.cell?_of_block (setG_far (by omega))).trans k.hy, k.below.trans (setG_below.mono (by omega)), by rw [setG_size]; exact hs, (setG_far (by omega)).trans k.hg, setG_at k.hh⟩
end

theorem low_num {c l u s : Nat} (hc : 0 < c → cntB l = true) (h0 : c = 0 → l = 0 ∧ u = 0 ∧ s = 0) : l % SW ≤ INF := by
  by_cases h : c = 0
  · rw [(h0 h).1]; decide
  · have : l % SW < INF := of_decide_eq_true (hc (by omega)); omega
theorem up_num {c l u s : Nat} (hc : 0 < c → cntB u = true) (h0 : c = 0 → l = 0 ∧ u = 0 ∧ s = 0) : u % SW ≤ INF := by
  by_cases h : c = 0
  · rw [(h0 h).2.1]; decide
  · have : u % SW < INF := of_decide_eq_true (hc (by omega)); omega
theorem mid_num {c l u s : Nat} (hc : 0 < c → cntB s = true) (h0 : c = 0 → l = 0 ∧ u = 0 ∧ s = 0) : s % SW ≤ INF := by
  by_cases h : c = 0
  · rw [(h0 h).2.2]; decide
  · have : s % SW < INF := of_decide_eq_true (hc (by omega)); omega
theorem leq_of_V {a b : Nat} (ha : a % SW ≤ INF) (hb : b % SW ≤ INF) (h : V a ≤ V b) : (FloatKind.f64.format.order a b == some Ordering.lt || FloatKind.f64.format.order a b == some Ordering.eq) = true := by
  have e : FloatKind.f64.format.order a b = some (compare (V a) (V b)) := order_num ha hb
  rw [e]
  rcases Int.lt_or_eq_of_le h with h | h
  · rw [cmp_lt h]; rfl
  · rw [cmp_eq h]; rfl

/-- what the second loop's round reads -/
structure N3 (P : Addr) (x : Nat) (W : World) (A : G) (w : World) : Prop where
  hx : w.cell? P = some (.float .f64 x)
  below : Below W.heap.size W w
  size : W.heap.size + 2 ≤ w.heap.size
  hg : w.heap[W.heap.size]? = some (.cells A.cells 36)
theorem N3.drew {P : Addr} {x : Nat} {W : World} {A : G} {w : World} (h : N3 P x W A w) : N3 P x W A w.drew := ⟨h.hx, h.below.drew, h.size, h.hg⟩


set_option maxRecDepth 100000 in
set_option maxHeartbeats 8000000 in
theorem ends_walk (b off len cap : Nat) (zs : List Nat) (turn : Int) (w : World) (hl : zs.length = len) (hpos : 0 < len) (hlen : len ≤ 200) (hz : ∀ x ∈ zs, U64 x)
    (hc : ∀ k, k < len → w.cell? ⟨b, off + k, none⟩ = some (.float .f64 (zs.getD k 0))) :
    Calls Try.prog 7 #[.slice (some ⟨b, off, none⟩) len cap, .int .i64 turn] w fun e w' => e = .returned (.bool true) ∧ Below w.heap.size w w' := by
  obtain ⟨m, hm0⟩ : ∃ m : Nat, bits .and .i64 turn 1023 = (m : Int) := ⟨(bits .and .i64 turn 1023).toNat, by have := (and1023 turn).1; omega⟩
  have hm2 : m ≤ 1023 := by have := (and1023 turn).2; rw [hm0] at this; omega
  have hm : Hid (bits .and .i64 turn 1023 = (m : Int)) := hm0
  have HZ : Hid (∀ x ∈ zs, U64 x) := hz
  have HL : Hid (zs.length = len) := hl
  have HZT : Hid (∀ x ∈ turned zs m, U64 x) := fun x hx => hz x ((turned_perm zs m (by omega)).mem_iff.2 hx)
  have HC : Hid (∀ k, k < len → w.cell? ⟨b, off + k, none⟩ = some (.float .f64 (zs.getD k 0))) := hc
  have hlb0 := World.block_lt_of_cell? w _ (hc 0 hpos)
  simp only at hlb0
  have hlb : Hid (b < w.heap.size ∧ b < w.heap.size) := ⟨hlb0, hlb0⟩
  have q1 : ¬ ((len : Int) == 0) = true := by simp; omega
  have q2 : ((len : Int) == 0) = false := by simp; omega
  have q6 : decide ((200 : Int) < (len : Int)) = false := by simp; omega
  clear hz hl hm0 hc q1
  go_enter Try.func7, Try.ntmps7
  go_wp2
  go_loopw [7] (fun i wr => ∃ k : Nat, k ≤ len ∧ i = .int .i64 k ∧ Below w.heap.size w wr ∧ w.heap.size + 2 ≤ wr.heap.size ∧
      wr.heap[w.heap.size]? = some (.cells (upTo zs k).cells 36) ∧ wr.heap[w.heap.size + 1]? = some (.cells (upTo (turned zs m) k).cells 36)) (fun i _ => len - (intOf i).toNat)
  case atStart =>
    refine ⟨0, by omega, rfl, ?_, by simp, ?_, ?_⟩
    · exact ((Below.refl _ _).alloc (Nat.le_refl _) _).alloc (by simp) _
    · rw [Below.heap_alloc _ _ _ (by simp)]
      exact heap_alloc_new w _
    · have h := heap_alloc_new (w.alloc (Obj.cells G.zero.cells 36)) (Obj.cells G.zero.cells 36)
      rw [show (w.alloc (Obj.cells G.zero.cells 36)).heap.size = w.heap.size + 1 by simp] at h
      exact h
  case round =>
    obtain ⟨k, hk, rfl, hB, hsz, hg, hh⟩ := hrel
    by_cases hlt : k < len
    · have hj2 : (k + m) % len < len := Nat.mod_lt _ (by omega)
      have hx : wr.cell? ⟨b, off + k, none⟩ = some (.float .f64 (zs.getD k 0)) := (hB.cell (by exact hlb0)).trans (HC.out k hlt)
      have hy : wr.cell? ⟨b, off + (k + m) % len, none⟩ = some (.float .f64 (zs.getD ((k + m) % len) 0)) := (hB.cell (by exact hlb0)).trans (HC.out _ hj2)
      have hty : Hid ((turned zs m).getD k 0 = zs.getD ((k + m) % len) 0) := by
        have h1 : k < zs.length := by rw [HL.out]; exact hlt
        show (turned zs m).getD k 0 = _
        rw [List.getD_eq_getElem?_getD, List.getElem?_eq_getElem (by rw [turned_length]; exact h1), Option.getD_some]
        simp only [turned, List.getElem_map, List.getElem_range]
        rw [HL.out]
      have hxu : Hid (U64 (zs.getD k 0)) := HZ.out _ (by rw [List.getD_eq_getElem?_getD, List.getElem?_eq_getElem (by rw [HL.out]; exact hlt)]; exact List.getElem_mem _)
      have hyu : Hid (U64 (zs.getD ((k + m) % len) 0)) := HZ.out _ (by rw [List.getD_eq_getElem?_getD, List.getElem?_eq_getElem (by rw [HL.out]; exact hj2)]; exact List.getElem_mem _)
      have hok : Hid ((upTo zs k).OK k) := upTo_ok zs HZ.out k (by rw [HL.out]; exact hk)
      have hok2 : Hid ((upTo (turned zs m) k).OK k) := upTo_ok _ HZT.out k (by rw [turned_length, HL.out]; exact hk)
      have hnext : Hid (upTo zs (k + 1) = (upTo zs k).step (zs.getD k 0)) := upTo_succ zs k (by rw [HL.out]; exact hlt)
      have hnext2 : Hid (upTo (turned zs m) (k + 1) = (upTo (turned zs m) k).step (zs.getD ((k + m) % len) 0)) := by
        have := upTo_succ (turned zs m) k (by rw [turned_length, HL.out]; exact hlt)
        rw [hty.out] at this
        exact this
      clear hty
      have hj : Hid (((k : Int) + (m : Int)) % (len : Int) = (((k + m) % len : Nat) : Int)) := by show _ = _; rw [Int.natCast_emod]; rfl
      have hjt : Hid (((k : Int) + (m : Int)).tmod (len : Int) = (((k + m) % len : Nat) : Int)) := by show _ = _; rw [Int.tmod_eq_emod_of_nonneg (by omega), Int.natCast_emod]; rfl
      have HI : Hid (N2 ⟨b, off + k, none⟩ ⟨b, off + (k + m) % len, none⟩ (zs.getD k 0) (zs.getD ((k + m) % len) 0) w (upTo zs k) ((upTo zs k).step (zs.getD k 0)) (upTo (turned zs m) k) ((upTo (turned zs m) k).step (zs.getD ((k + m) % len) 0)) false false wr) :=
        ⟨hx, hy, hB, hsz, hg, hh⟩
      clear hx hy hg hh hB
      generalize zs.getD k 0 = x at *
      generalize zs.getD ((k + m) % len) 0 = y at *
      generalize (k + m) % len = j at *
      generalize upTo zs k = g at *
      generalize upTo (turned zs m) k = h at *
      have hlb := hlb.out
      go_wp2_with fail
      refine Go.Drawn.wp_region_inv (fun i => ([.agg g.cells, .slice (some ⟨b, off, none⟩) len cap, .int .i64 k, .pointer (some ⟨b, off + k, none⟩), .float .f64 x, .agg (g.step x).cells, .agg h.cells, .slice (some ⟨b, off, none⟩) len cap, .int .i64 k, .int .i64 turn, .int .i64 m, .int .i64 (↑k + ↑m), .slice (some ⟨b, off, none⟩) len cap, .int .i64 len, .int .i64 j, .pointer (some ⟨b, off + j, none⟩), .float .f64 y, .agg (h.step y).cells, undef, undef] : List Value).getD i undef)
        (fun L w' => N2 ⟨b, off + k, none⟩ ⟨b, off + j, none⟩ x y w g (g.step x) h (h.step y) (L.getD 18 false) (L.getD 19 false) w') (by kernel_rfl) (by kernel_rfl) (by kernel_rfl) ?_ ?_ ?_
      · intro L hL
        rw [hL, hL]
        exact HI.out.fresh (Fresh.refl wr).drew
      · intro L w3 hall hI3
        rw [hall 18 (by decide), hall 19 (by decide)] at hI3
        simp only [Go.Drawn.putAll, Act.put, List.getD_cons_zero, List.getD_cons_succ, List.setIfInBounds_toArray, List.set_cons_zero, List.set_cons_succ]
        have hg := hI3.hg
        have hh := hI3.hh
        have HB3 : Hid (Below w.heap.size w w3) := hI3.below
        have HS3 : Hid (w.heap.size + 2 ≤ w3.heap.size) := hI3.size
        simp only [if_true] at hg hh
        have HG : Hid (w3.heap[w.heap.size]? = some (.cells (g.step x).cells 36)) := hg
        have HH : Hid (w3.heap[w.heap.size + 1]? = some (.cells (h.step y).cells 36)) := hh
        clear hall hI3 hg hh
        go_wp2
        go_roundw
        case rel => exact ⟨k + 1, by omega, by go_num, HB3.out, HS3.out, by rw [hnext.out]; exact HG.out, by rw [hnext2.out]; exact HH.out⟩
        case measure => simp [intOf]; omega
      · refine ⟨?_, ?_, ?_, ?_, ?_, ?_, ?_, ?_, ?_, ?_, ?_, ?_, ?_, ?_, ?_, ?_, ?_, ?_, ?_, ?_, trivial⟩
        · intro L a w' hL hsh hfr hI hu hu' hdeps K hK
          have hN := hsh.not (i := 0) (j := 5) (by kernel_rfl) hu
          have hN := hsh.not (i := 5) (j := 17) (by kernel_rfl) hN
          have hN := hsh.not (i := 17) (j := 18) (by kernel_rfl) hN
          have s5 := hfr.old (t := 5) (by kernel_rfl) (v := .pointer (some ⟨w.heap.size, 0, none⟩)) rfl
          have hg := hI.hg
          rw [hN] at hg
          have c0 : w'.cell? ⟨w.heap.size, 0, none⟩ = some (.int .u64 (g).c) := by simp [World.cell?, hg, G.cells]
          have c1 : w'.cell? ⟨w.heap.size, 1, none⟩ = some (.int .u64 (g).d) := by simp [World.cell?, hg, G.cells]
          have c2 : w'.cell? ⟨w.heap.size, 2, none⟩ = some (.float .f64 (g).l) := by simp [World.cell?, hg, G.cells]
          have c3 : w'.cell? ⟨w.heap.size, 3, none⟩ = some (.float .f64 (g).u) := by simp [World.cell?, hg, G.cells]
          have c4 : w'.cell? ⟨w.heap.size, 4, none⟩ = some (.float .f64 (g).s) := by simp [World.cell?, hg, G.cells]
          have hK' := hK w' (N2.put (by decide) (by decide) hI)
          clear hL hsh hfr hI hu hu' hdeps hK
          clear hg hN
          simp only [Region.wanted, if_true]
          go_simp
          exact hK'
        · intro L a w' hL hsh hfr hI hu hu' hdeps K hK
          have s0 := hfr.old (t := 0) (by kernel_rfl) (v := .slice (some ⟨b, off, none⟩) len cap) rfl
          have hK' := hK w' (N2.put (by decide) (by decide) hI)
          clear hL hsh hfr hI hu hu' hdeps hK
          simp only [Region.wanted, if_true]
          go_simp
          exact hK'
        · intro L a w' hL hsh hfr hI hu hu' hdeps K hK
          have s7 := hfr.old (t := 7) (by kernel_rfl) (v := .int .i64 k) rfl
          have hK' := hK w' (N2.put (by decide) (by decide) hI)
          clear hL hsh hfr hI hu hu' hdeps hK
          simp only [Region.wanted, if_true]
          go_simp
          exact hK'
        · intro L a w' hL hsh hfr hI hu hu' hdeps K hK
          have s25 := hfr.got (j := 1) (d := 25) (by kernel_rfl) (Go.Drawn.dep_of hdeps (by kernel_rfl)) (v := .slice (some ⟨b, off, none⟩) len cap) rfl
          have s26 := hfr.got (j := 2) (d := 26) (by kernel_rfl) (Go.Drawn.dep_of hdeps (by kernel_rfl)) (v := .int .i64 k) rfl
          have i0 : (0 : Int) ≤ (k : Int) := by omega
          have i1 : (k : Int) < (len : Int) := by omega
          have hK' := hK w' (N2.put (by decide) (by decide) hI)
          clear hL hsh hfr hI hu hu' hdeps hK
          simp only [Region.wanted, if_true]
          go_simp
          exact hK'
        · intro L a w' hL hsh hfr hI hu hu' hdeps K hK
          have s27 := hfr.got (j := 3) (d := 27) (by kernel_rfl) (Go.Drawn.dep_of hdeps (by kernel_rfl)) (v := .pointer (some ⟨b, off + k, none⟩)) rfl
          have hx := hI.hx
          have hK' := hK w' (N2.put (by decide) (by decide) hI)
          clear hL hsh hfr hI hu hu' hdeps hK
          simp only [Region.wanted, if_true]
          go_simp
          exact hK'
        · intro L a w' hL hsh hfr hI hu hu' hdeps K hK
          have s24 := hfr.got (j := 0) (d := 24) (by kernel_rfl) (Go.Drawn.dep_of hdeps (by kernel_rfl)) (v := .agg g.cells) rfl
          have s28 := hfr.got (j := 4) (d := 28) (by kernel_rfl) (Go.Drawn.dep_of hdeps (by kernel_rfl)) (v := .float .f64 x) rfl
          unfold G.cells at s24
          have hK' := fun w1 (hf : Fresh w' w1) => hK w1 (N2.put (by decide) (by decide) (hI.fresh hf))
          clear hL hsh hfr hI hu hu' hdeps hK
          simp only [Region.wanted, if_true]
          go_simp
          refine (note_any g k x _ hok.out (by omega) hxu.out).mono ?_
          rintro e w1 ⟨rfl, hf⟩
          exact hK' w1 hf
        · intro L a w' hL hsh hfr hI hu hu' hdeps K hK
          have hN := hsh.not (i := 6) (j := 17) (by kernel_rfl) hu
          have hN := hsh.not (i := 17) (j := 19) (by kernel_rfl) hN
          have s6 := hfr.old (t := 6) (by kernel_rfl) (v := .pointer (some ⟨w.heap.size + 1, 0, none⟩)) rfl
          have hg := hI.hh
          rw [hN] at hg
          have c0 : w'.cell? ⟨w.heap.size + 1, 0, none⟩ = some (.int .u64 (h).c) := by simp [World.cell?, hg, G.cells]
          have c1 : w'.cell? ⟨w.heap.size + 1, 1, none⟩ = some (.int .u64 (h).d) := by simp [World.cell?, hg, G.cells]
          have c2 : w'.cell? ⟨w.heap.size + 1, 2, none⟩ = some (.float .f64 (h).l) := by simp [World.cell?, hg, G.cells]
          have c3 : w'.cell? ⟨w.heap.size + 1, 3, none⟩ = some (.float .f64 (h).u) := by simp [World.cell?, hg, G.cells]
          have c4 : w'.cell? ⟨w.heap.size + 1, 4, none⟩ = some (.float .f64 (h).s) := by simp [World.cell?, hg, G.cells]
          have hK' := hK w' (N2.put (by decide) (by decide) hI)
          clear hL hsh hfr hI hu hu' hdeps hK
          clear hg hN
          simp only [Region.wanted, if_true]
          go_simp
          exact hK'
        · intro L a w' hL hsh hfr hI hu hu' hdeps K hK
          have s0 := hfr.old (t := 0) (by kernel_rfl) (v := .slice (some ⟨b, off, none⟩) len cap) rfl
          have hK' := hK w' (N2.put (by decide) (by decide) hI)
          clear hL hsh hfr hI hu hu' hdeps hK
          simp only [Region.wanted, if_true]
          go_simp
          exact hK'
        · intro L a w' hL hsh hfr hI hu hu' hdeps K hK
          have s7 := hfr.old (t := 7) (by kernel_rfl) (v := .int .i64 k) rfl
          have hK' := hK w' (N2.put (by decide) (by decide) hI)
          clear hL hsh hfr hI hu hu' hdeps hK
          simp only [Region.wanted, if_true]
          go_simp
          exact hK'
        · intro L a w' hL hsh hfr hI hu hu' hdeps K hK
          have s1 := hfr.old (t := 1) (by kernel_rfl) (v := .int .i64 turn) rfl
          have hK' := hK w' (N2.put (by decide) (by decide) hI)
          clear hL hsh hfr hI hu hu' hdeps hK
          simp only [Region.wanted, if_true]
          go_simp
          exact hK'
        · intro L a w' hL hsh hfr hI hu hu' hdeps K hK
          have s33 := hfr.got (j := 9) (d := 33) (by kernel_rfl) (Go.Drawn.dep_of hdeps (by kernel_rfl)) (v := .int .i64 turn) rfl
          have hmm := hm.out
          have hK' := hK w' (N2.put (by decide) (by decide) hI)
          clear hL hsh hfr hI hu hu' hdeps hK
          simp only [Region.wanted, if_true]
          go_simp
          exact hK'
        · intro L a w' hL hsh hfr hI hu hu' hdeps K hK
          have s32 := hfr.got (j := 8) (d := 32) (by kernel_rfl) (Go.Drawn.dep_of hdeps (by kernel_rfl)) (v := .int .i64 k) rfl
          have s34 := hfr.got (j := 10) (d := 34) (by kernel_rfl) (Go.Drawn.dep_of hdeps (by kernel_rfl)) (v := .int .i64 m) rfl
          have hw1 : IntKind.i64.wrap ((k : Int) + (m : Int)) = (k : Int) + (m : Int) := IntWalk.i64_in _ ⟨by omega, by omega⟩
          have hK' := hK w' (N2.put (by decide) (by decide) hI)
          clear hL hsh hfr hI hu hu' hdeps hK
          simp only [Region.wanted, if_true]
          go_simp
          exact hK'
        · intro L a w' hL hsh hfr hI hu hu' hdeps K hK
          have s0 := hfr.old (t := 0) (by kernel_rfl) (v := .slice (some ⟨b, off, none⟩) len cap) rfl
          have hK' := hK w' (N2.put (by decide) (by decide) hI)
          clear hL hsh hfr hI hu hu' hdeps hK
          simp only [Region.wanted, if_true]
          go_simp
          exact hK'
        · intro L a w' hL hsh hfr hI hu hu' hdeps K hK
          have s36 := hfr.got (j := 12) (d := 36) (by kernel_rfl) (Go.Drawn.dep_of hdeps (by kernel_rfl)) (v := .slice (some ⟨b, off, none⟩) len cap) rfl
          have hK' := hK w' (N2.put (by decide) (by decide) hI)
          clear hL hsh hfr hI hu hu' hdeps hK
          simp only [Region.wanted, if_true]
          go_simp
          exact hK'
        · intro L a w' hL hsh hfr hI hu hu' hdeps K hK
          have s35 := hfr.got (j := 11) (d := 35) (by kernel_rfl) (Go.Drawn.dep_of hdeps (by kernel_rfl)) (v := .int .i64 (↑k + ↑m)) rfl
          have s37 := hfr.got (j := 13) (d := 37) (by kernel_rfl) (Go.Drawn.dep_of hdeps (by kernel_rfl)) (v := .int .i64 len) rfl
          have hj1 := hj.out
          have hj2 := hjt.out
          have hl0 : ¬ (len = 0) := by omega
          have hK' := hK w' (N2.put (by decide) (by decide) hI)
          clear hL hsh hfr hI hu hu' hdeps hK
          simp only [Region.wanted, if_true]
          go_simp
          exact hK'
        · intro L a w' hL hsh hfr hI hu hu' hdeps K hK
          have s31 := hfr.got (j := 7) (d := 31) (by kernel_rfl) (Go.Drawn.dep_of hdeps (by kernel_rfl)) (v := .slice (some ⟨b, off, none⟩) len cap) rfl
          have s38 := hfr.got (j := 14) (d := 38) (by kernel_rfl) (Go.Drawn.dep_of hdeps (by kernel_rfl)) (v := .int .i64 j) rfl
          have i0 : (0 : Int) ≤ (j : Int) := by omega
          have i1 : (j : Int) < (len : Int) := by omega
          have hK' := hK w' (N2.put (by decide) (by decide) hI)
          clear hL hsh hfr hI hu hu' hdeps hK
          simp only [Region.wanted, if_true]
          go_simp
          exact hK'
        · intro L a w' hL hsh hfr hI hu hu' hdeps K hK
          have s39 := hfr.got (j := 15) (d := 39) (by kernel_rfl) (Go.Drawn.dep_of hdeps (by kernel_rfl)) (v := .pointer (some ⟨b, off + j, none⟩)) rfl
          have hx := hI.hy
          have hK' := hK w' (N2.put (by decide) (by decide) hI)
          clear hL hsh hfr hI hu hu' hdeps hK
          simp only [Region.wanted, if_true]
          go_simp
          exact hK'
        · intro L a w' hL hsh hfr hI hu hu' hdeps K hK
          have s30 := hfr.got (j := 6) (d := 30) (by kernel_rfl) (Go.Drawn.dep_of hdeps (by kernel_rfl)) (v := .agg h.cells) rfl
          have s40 := hfr.got (j := 16) (d := 40) (by kernel_rfl) (Go.Drawn.dep_of hdeps (by kernel_rfl)) (v := .float .f64 y) rfl
          unfold G.cells at s30
          have hK' := fun w1 (hf : Fresh w' w1) => hK w1 (N2.put (by decide) (by decide) (hI.fresh hf))
          clear hL hsh hfr hI hu hu' hdeps hK
          simp only [Region.wanted, if_true]
          go_simp
          refine (note_any h k y _ hok2.out (by omega) hyu.out).mono ?_
          rintro e w1 ⟨rfl, hf⟩
          exact hK' w1 hf
        · intro L a w' hL hsh hfr hI hu hu' hdeps K hK
          have s5 := hfr.old (t := 5) (by kernel_rfl) (v := .pointer (some ⟨w.heap.size, 0, none⟩)) rfl
          have s29 := hfr.got (j := 5) (d := 29) (by kernel_rfl) (Go.Drawn.dep_of hdeps (by kernel_rfl)) (v := .agg (g.step x).cells) rfl
          unfold G.cells at s29
          have hg := hI.hg
          rw [hu] at hg
          have c0 : w'.cell? ⟨w.heap.size, 0, none⟩ = some (.int .u64 (g).c) := by simp [World.cell?, hg, G.cells]
          have c1 : w'.cell? ⟨w.heap.size, 1, none⟩ = some (.int .u64 (g).d) := by simp [World.cell?, hg, G.cells]
          have c2 : w'.cell? ⟨w.heap.size, 2, none⟩ = some (.float .f64 (g).l) := by simp [World.cell?, hg, G.cells]
          have c3 : w'.cell? ⟨w.heap.size, 3, none⟩ = some (.float .f64 (g).u) := by simp [World.cell?, hg, G.cells]
          have c4 : w'.cell? ⟨w.heap.size, 4, none⟩ = some (.float .f64 (g).s) := by simp [World.cell?, hg, G.cells]
          have f0 : ∀ o, w'.frozen? ⟨w.heap.size, o, none⟩ = false := fun o => by simp [World.frozen?, hg, G.cells]
          have hK' := hK _ (N2.st18 (by exact hlb) hL (by decide) hu hI)
          clear hL hsh hfr hI hu hu' hdeps hK
          clear hg
          simp only [Region.wanted, if_true]
          go_simp
          exact hK'
        · intro L a w' hL hsh hfr hI hu hu' hdeps K hK
          have s6 := hfr.old (t := 6) (by kernel_rfl) (v := .pointer (some ⟨w.heap.size + 1, 0, none⟩)) rfl
          have s41 := hfr.got (j := 17) (d := 41) (by kernel_rfl) (Go.Drawn.dep_of hdeps (by kernel_rfl)) (v := .agg (h.step y).cells) rfl
          unfold G.cells at s41
          have hg := hI.hh
          rw [hu] at hg
          have c0 : w'.cell? ⟨w.heap.size + 1, 0, none⟩ = some (.int .u64 (h).c) := by simp [World.cell?, hg, G.cells]
          have c1 : w'.cell? ⟨w.heap.size + 1, 1, none⟩ = some (.int .u64 (h).d) := by simp [World.cell?, hg, G.cells]
          have c2 : w'.cell? ⟨w.heap.size + 1, 2, none⟩ = some (.float .f64 (h).l) := by simp [World.cell?, hg, G.cells]
          have c3 : w'.cell? ⟨w.heap.size + 1, 3, none⟩ = some (.float .f64 (h).u) := by simp [World.cell?, hg, G.cells]
          have c4 : w'.cell? ⟨w.heap.size + 1, 4, none⟩ = some (.float .f64 (h).s) := by simp [World.cell?, hg, G.cells]
          have f0 : ∀ o, w'.frozen? ⟨w.heap.size + 1, o, none⟩ = false := fun o => by simp [World.frozen?, hg, G.cells]
          have hK' := hK _ (N2.st19 (by exact hlb) hL (by decide) hu hI)
          clear hL hsh hfr hI hu hu' hdeps hK
          clear hg
          simp only [Region.wanted, if_true]
          go_simp
          exact hK'
    · have ek : k = len := by omega
      have hA := has_all zs HZ.out
      have hA' := has_all (turned zs m) HZT.out
      have e5 : upTo zs len = zs.foldl G.step G.zero := by unfold upTo; rw [← HL.out, List.take_length]
      have e6 : upTo (turned zs m) len = (turned zs m).foldl G.step G.zero := by
        have := turned_length zs m
        rw [HL.out] at this
        unfold upTo; rw [← this, List.take_length]
      rw [ek, e5] at hg
      rw [ek, e6] at hh
      have hsame := has_same HZ.out hA.1 hA'.1 (turned_perm zs m (by rw [HL.out]; exact hpos))
      have hok : Hid ((zs.foldl G.step G.zero).OK len) := by have := hA.2; rw [HL.out] at this; exact this
      have hhas : Hid (Has zs (zs.foldl G.step G.zero)) := hA.1
      clear hA hA' e5 e6
      generalize zs.foldl G.step G.zero = A at *
      generalize (turned zs m).foldl G.step G.zero = D at *
      obtain ⟨f1, f2, f3, f4⟩ := hsame
      have c0 : wr.cell? ⟨w.heap.size, 0, none⟩ = some (.int .u64 A.c) := by simp [World.cell?, hg, G.cells]
      have c1 : wr.cell? ⟨w.heap.size, 1, none⟩ = some (.int .u64 A.d) := by simp [World.cell?, hg, G.cells]
      have c2 : wr.cell? ⟨w.heap.size, 2, none⟩ = some (.float .f64 A.l) := by simp [World.cell?, hg, G.cells]
      have c3 : wr.cell? ⟨w.heap.size, 3, none⟩ = some (.float .f64 A.u) := by simp [World.cell?, hg, G.cells]
      have d0 : wr.cell? ⟨w.heap.size + 1, 0, none⟩ = some (.int .u64 A.c) := by rw [f1]; simp [World.cell?, hh, G.cells]
      have d1 : wr.cell? ⟨w.heap.size + 1, 1, none⟩ = some (.int .u64 A.d) := by rw [f2]; simp [World.cell?, hh, G.cells]
      have d2 : wr.cell? ⟨w.heap.size + 1, 2, none⟩ = some (.float .f64 A.l) := by rw [f3]; simp [World.cell?, hh, G.cells]
      have d3 : wr.cell? ⟨w.heap.size + 1, 3, none⟩ = some (.float .f64 A.u) := by rw [f4]; simp [World.cell?, hh, G.cells]
      have b1 := fun w => same_self A.l w hok.out.ul
      have b2 := fun w => same_self A.u w hok.out.uu
      have hsum := hok.out.sum
      have q3 : ((A.c : Int) + (A.d : Int) != (len : Int)) = false := by simp; omega
      have q4 : A.c ≤ 200 := by omega
      have q5 : A.d ≤ 200 := by omega
      have HG : Hid (wr.heap[w.heap.size]? = some (.cells A.cells 36)) := hg
      have HB : Hid (Below w.heap.size w wr) := hB
      clear f1 f2 f3 f4 hg hh hB hsum ek hk
      go_wp2_with fail
      refine (b1 _).mono ?_; rintro e w' ⟨rfl, rfl⟩
      go_wp2_with fail
      refine (b2 _).mono ?_; rintro e w' ⟨rfl, rfl⟩
      go_wp2_with fail
      clear b1 b2 c0 c1 c2 c3 d0 d1 d2 d3 q3 q4 q5 hlt
      obtain ⟨wo, rfl⟩ : ∃ wo : World, wo = wr := ⟨_, rfl⟩
      go_loopw [8] (fun i wq => ∃ n : Nat, n ≤ len ∧ i = .int .i64 n ∧ Below w.heap.size w wq ∧ w.heap.size + 2 ≤ wq.heap.size ∧ wq.heap[w.heap.size]? = some (.cells A.cells 36)) (fun i _ => len - (intOf i).toNat)
      case atStart => exact ⟨0, by omega, rfl, HB.out, hsz, HG.out⟩
      case round =>
        obtain ⟨n, hn, rfl, hB, hsz2, hg⟩ := hrel
        by_cases hlt : n < len
        · have hx : wr.cell? ⟨b, off + n, none⟩ = some (.float .f64 (zs.getD n 0)) := (hB.cell (by exact hlb0)).trans (HC.out n hlt)
          have hin : zs.getD n 0 ∈ zs := by rw [List.getD_eq_getElem?_getD, List.getElem?_eq_getElem (by rw [HL.out]; exact hlt)]; exact List.getElem_mem _
          have hxu := HZ.out _ hin
          have HI : Hid (N3 ⟨b, off + n, none⟩ (zs.getD n 0) w A wr) := ⟨hx, hB, hsz2, hg⟩
          have c15 := fun w => counts_any (zs.getD n 0) w hxu
          have c12 := fun w => order_any A.l (zs.getD n 0) w hok.out.ul hxu
          have c12' := fun w => order_any A.u (zs.getD n 0) w hok.out.uu hxu
          have hbnd : cntB (zs.getD n 0) = true → Hid (decide (0 < ord A.l (zs.getD n 0)) = false) ∧ Hid (decide (ord A.u (zs.getD n 0) < 0) = false) := fun hcx => by
            have hm := List.mem_filter.2 ⟨hin, hcx⟩
            have h1 := hhas.out.lle _ hm
            have h2 := hhas.out.ule _ hm
            refine ⟨decide_eq_false (fun h => ?_), decide_eq_false (fun h => ?_)⟩
            · have := ord_gt_place.1 h; omega
            · have := ord_le_place.1 h; omega
          have HX : Hid (hin = hin) := rfl
          clear HX hx hB hg hin hxu
          generalize zs.getD n 0 = x at *
          obtain ⟨k0, hk0⟩ : ∃ k0 : Nat, k0 = k := ⟨k, rfl⟩
          have hk0' : Hid (k0 = k) := hk0
          clear hk0
          cases hcx : cntB x
          · rw [hcx] at c15
            clear hbnd hcx
            go_wp2_with fail
            refine Go.Drawn.wp_region_inv (fun i => ([.slice (some ⟨b, off, none⟩) len cap, .int .i64 n, .pointer (some ⟨b, off + n, none⟩), .float .f64 x, .bool false, .bool false, undef, undef, undef, undef, undef, undef, undef, undef, undef, undef, undef, undef, undef, undef, undef, undef, undef, undef, .bool false] : List Value).getD i undef)
              (fun _ w' => N3 ⟨b, off + n, none⟩ x w A w') (by kernel_rfl) (by kernel_rfl) (by kernel_rfl) ?_ ?_ ?_
            · intro L hL
              exact HI.out.drew
            · intro L w3 hall hI3
              simp only [Go.Drawn.putAll, Act.put, List.getD_cons_zero, List.getD_cons_succ, List.setIfInBounds_toArray, List.set_cons_zero, List.set_cons_succ]
              have HI3 : Hid (N3 ⟨b, off + n, none⟩ x w A w3) := hI3
              clear hall hI3
              go_wp2
              go_roundw
              case rel => exact ⟨n + 1, by omega, by go_num, HI3.out.below, HI3.out.size, HI3.out.hg⟩
              case measure => simp [intOf]; omega
            · refine ⟨?_, ?_, ?_, ?_, ?_, ?_, ?_, ?_, ?_, ?_, ?_, ?_, ?_, ?_, ?_, ?_, ?_, ?_, ?_, ?_, ?_, ?_, ?_, ?_, ?_, trivial⟩
              · intro L a w' hL hsh hfr hI hu hu' hdeps K hK
                have s0 := hfr.old (t := 0) (by kernel_rfl) (v := .slice (some ⟨b, off, none⟩) len cap) rfl
                have hK' := hK w' hI
                clear hL hsh hfr hu hu' hdeps hK
                simp only [Region.wanted, if_true]
                clear hI
                go_simp
                exact hK'
              · intro L a w' hL hsh hfr hI hu hu' hdeps K hK
                have s8 := hfr.old (t := 8) (by kernel_rfl) (v := .int .i64 n) rfl
                have hK' := hK w' hI
                clear hL hsh hfr hu hu' hdeps hK
                simp only [Region.wanted, if_true]
                clear hI
                go_simp
                exact hK'
              · intro L a w' hL hsh hfr hI hu hu' hdeps K hK
                have s87 := hfr.got (j := 0) (d := 87) (by kernel_rfl) (Go.Drawn.dep_of hdeps (by kernel_rfl)) (v := .slice (some ⟨b, off, none⟩) len cap) rfl
                have s88 := hfr.got (j := 1) (d := 88) (by kernel_rfl) (Go.Drawn.dep_of hdeps (by kernel_rfl)) (v := .int .i64 n) rfl
                have i0 : (0 : Int) ≤ (n : Int) := by omega
                have i1 : (n : Int) < (len : Int) := by omega
                have hK' := hK w' hI
                clear hL hsh hfr hu hu' hdeps hK
                simp only [Region.wanted, if_true]
                clear hI
                go_simp
                exact hK'
              · intro L a w' hL hsh hfr hI hu hu' hdeps K hK
                have s89 := hfr.got (j := 2) (d := 89) (by kernel_rfl) (Go.Drawn.dep_of hdeps (by kernel_rfl)) (v := .pointer (some ⟨b, off + n, none⟩)) rfl
                have hx := hI.hx
                have hK' := hK w' hI
                clear hL hsh hfr hu hu' hdeps hK
                simp only [Region.wanted, if_true]
                clear hI
                go_simp
                exact hK'
              · intro L a w' hL hsh hfr hI hu hu' hdeps K hK
                have s90 := hfr.got (j := 3) (d := 90) (by kernel_rfl) (Go.Drawn.dep_of hdeps (by kernel_rfl)) (v := .float .f64 x) rfl
                have hK' := hK w' hI
                clear hL hsh hfr hu hu' hdeps hK
                simp only [Region.wanted, if_true]
                clear hI
                go_simp
                refine (c15 _).mono ?_
                rintro e w1 ⟨rfl, rfl⟩
                exact hK'
              · intro L a w' hL hsh hfr hI hu hu' hdeps K hK
                have s91 := hfr.got (j := 4) (d := 91) (by kernel_rfl) (Go.Drawn.dep_of hdeps (by kernel_rfl)) (v := .bool false) rfl
                have hK' := hK w' hI
                clear hL hsh hfr hu hu' hdeps hK
                simp only [Region.wanted, if_true]
                clear hI
                go_simp
                exact hK'
              · intro L a w' hL hsh hfr hI hu hu' hdeps K hK
                have s92 := hfr.got (j := 5) (d := 92) (by kernel_rfl) (Go.Drawn.dep_of hdeps (by kernel_rfl)) (v := .bool false) rfl
                have hK' := hK w' hI
                clear hL hsh hfr hu hu' hdeps hK
                rw [if_neg (by simp [Region.wanted, yielded, s92])]
                clear hI
                exact hK'
              · intro L a w' hL hsh hfr hI hu hu' hdeps K hK
                have s92 := hfr.got (j := 5) (d := 92) (by kernel_rfl) (Go.Drawn.dep_of hdeps (by kernel_rfl)) (v := .bool false) rfl
                have hK' := hK w' hI
                clear hL hsh hfr hu hu' hdeps hK
                rw [if_neg (by simp [Region.wanted, yielded, s92])]
                clear hI
                exact hK'
              · intro L a w' hL hsh hfr hI hu hu' hdeps K hK
                have s92 := hfr.got (j := 5) (d := 92) (by kernel_rfl) (Go.Drawn.dep_of hdeps (by kernel_rfl)) (v := .bool false) rfl
                have hK' := hK w' hI
                clear hL hsh hfr hu hu' hdeps hK
                rw [if_neg (by simp [Region.wanted, yielded, s92])]
                clear hI
                exact hK'
              · intro L a w' hL hsh hfr hI hu hu' hdeps K hK
                have s92 := hfr.got (j := 5) (d := 92) (by kernel_rfl) (Go.Drawn.dep_of hdeps (by kernel_rfl)) (v := .bool false) rfl
                have hK' := hK w' hI
                clear hL hsh hfr hu hu' hdeps hK
                rw [if_neg (by simp [Region.wanted, yielded, s92])]
                clear hI
                exact hK'
              · intro L a w' hL hsh hfr hI hu hu' hdeps K hK
                have s92 := hfr.got (j := 5) (d := 92) (by kernel_rfl) (Go.Drawn.dep_of hdeps (by kernel_rfl)) (v := .bool false) rfl
                have hK' := hK w' hI
                clear hL hsh hfr hu hu' hdeps hK
                rw [if_neg (by simp [Region.wanted, yielded, s92])]
                clear hI
                exact hK'
              · intro L a w' hL hsh hfr hI hu hu' hdeps K hK
                have s92 := hfr.got (j := 5) (d := 92) (by kernel_rfl) (Go.Drawn.dep_of hdeps (by kernel_rfl)) (v := .bool false) rfl
                have hK' := hK w' hI
                clear hL hsh hfr hu hu' hdeps hK
                rw [if_neg (by simp [Region.wanted, yielded, s92])]
                clear hI
                exact hK'
              · intro L a w' hL hsh hfr hI hu hu' hdeps K hK
                have s92 := hfr.got (j := 5) (d := 92) (by kernel_rfl) (Go.Drawn.dep_of hdeps (by kernel_rfl)) (v := .bool false) rfl
                have hK' := hK w' hI
                clear hL hsh hfr hu hu' hdeps hK
                rw [if_neg (by simp [Region.wanted, yielded, s92])]
                clear hI
                exact hK'
              · intro L a w' hL hsh hfr hI hu hu' hdeps K hK
                have s92 := hfr.got (j := 5) (d := 92) (by kernel_rfl) (Go.Drawn.dep_of hdeps (by kernel_rfl)) (v := .bool false) rfl
                have hK' := hK w' hI
                clear hL hsh hfr hu hu' hdeps hK
                rw [if_neg (by simp [Region.wanted, yielded, s92])]
                clear hI
                exact hK'
              · intro L a w' hL hsh hfr hI hu hu' hdeps K hK
                have s92 := hfr.got (j := 5) (d := 92) (by kernel_rfl) (Go.Drawn.dep_of hdeps (by kernel_rfl)) (v := .bool false) rfl
                have hK' := hK w' hI
                clear hL hsh hfr hu hu' hdeps hK
                rw [if_neg (by simp [Region.wanted, yielded, s92])]
                clear hI
                exact hK'
              · intro L a w' hL hsh hfr hI hu hu' hdeps K hK
                have s101 := hfr.got (j := 14) (d := 101) (by kernel_rfl) (Go.Drawn.dep_of hdeps (by kernel_rfl)) (v := undef) rfl
                have hK' := hK w' hI
                clear hL hsh hfr hu hu' hdeps hK
                rw [if_neg (by simp [Region.wanted, yielded, s101, undef])]
                clear hI
                exact hK'
              · intro L a w' hL hsh hfr hI hu hu' hdeps K hK
                have s101 := hfr.got (j := 14) (d := 101) (by kernel_rfl) (Go.Drawn.dep_of hdeps (by kernel_rfl)) (v := undef) rfl
                have hK' := hK w' hI
                clear hL hsh hfr hu hu' hdeps hK
                rw [if_neg (by simp [Region.wanted, yielded, s101, undef])]
                clear hI
                exact hK'
              · intro L a w' hL hsh hfr hI hu hu' hdeps K hK
                have s101 := hfr.got (j := 14) (d := 101) (by kernel_rfl) (Go.Drawn.dep_of hdeps (by kernel_rfl)) (v := undef) rfl
                have hK' := hK w' hI
                clear hL hsh hfr hu hu' hdeps hK
                rw [if_neg (by simp [Region.wanted, yielded, s101, undef])]
                clear hI
                exact hK'
              · intro L a w' hL hsh hfr hI hu hu' hdeps K hK
                have s101 := hfr.got (j := 14) (d := 101) (by kernel_rfl) (Go.Drawn.dep_of hdeps (by kernel_rfl)) (v := undef) rfl
                have hK' := hK w' hI
                clear hL hsh hfr hu hu' hdeps hK
                rw [if_neg (by simp [Region.wanted, yielded, s101, undef])]
                clear hI
                exact hK'
              · intro L a w' hL hsh hfr hI hu hu' hdeps K hK
                have s101 := hfr.got (j := 14) (d := 101) (by kernel_rfl) (Go.Drawn.dep_of hdeps (by kernel_rfl)) (v := undef) rfl
                have hK' := hK w' hI
                clear hL hsh hfr hu hu' hdeps hK
                rw [if_neg (by simp [Region.wanted, yielded, s101, undef])]
                clear hI
                exact hK'
              · intro L a w' hL hsh hfr hI hu hu' hdeps K hK
                have s101 := hfr.got (j := 14) (d := 101) (by kernel_rfl) (Go.Drawn.dep_of hdeps (by kernel_rfl)) (v := undef) rfl
                have hK' := hK w' hI
                clear hL hsh hfr hu hu' hdeps hK
                rw [if_neg (by simp [Region.wanted, yielded, s101, undef])]
                clear hI
                exact hK'
              · intro L a w' hL hsh hfr hI hu hu' hdeps K hK
                have s101 := hfr.got (j := 14) (d := 101) (by kernel_rfl) (Go.Drawn.dep_of hdeps (by kernel_rfl)) (v := undef) rfl
                have hK' := hK w' hI
                clear hL hsh hfr hu hu' hdeps hK
                rw [if_neg (by simp [Region.wanted, yielded, s101, undef])]
                clear hI
                exact hK'
              · intro L a w' hL hsh hfr hI hu hu' hdeps K hK
                have s101 := hfr.got (j := 14) (d := 101) (by kernel_rfl) (Go.Drawn.dep_of hdeps (by kernel_rfl)) (v := undef) rfl
                have hK' := hK w' hI
                clear hL hsh hfr hu hu' hdeps hK
                rw [if_neg (by simp [Region.wanted, yielded, s101, undef])]
                clear hI
                exact hK'
              · intro L a w' hL hsh hfr hI hu hu' hdeps K hK
                have s92 := hfr.got (j := 5) (d := 92) (by kernel_rfl) (Go.Drawn.dep_of hdeps (by kernel_rfl)) (v := .bool false) rfl
                have hK' := hK w' hI
                clear hL hsh hfr hu hu' hdeps hK
                rw [if_neg (by simp [Region.wanted, yielded, s92])]
                clear hI
                exact hK'
              · intro L a w' hL hsh hfr hI hu hu' hdeps K hK
                have s92 := hfr.got (j := 5) (d := 92) (by kernel_rfl) (Go.Drawn.dep_of hdeps (by kernel_rfl)) (v := .bool false) rfl
                have s110 := hfr.got (j := 23) (d := 110) (by kernel_rfl) (Go.Drawn.dep_of hdeps (by kernel_rfl)) (v := undef) rfl
                have hK' := hK w' hI
                clear hL hsh hfr hu hu' hdeps hK
                simp only [Region.wanted, if_true]
                clear hI
                go_simp
                exact hK'
          · rw [hcx] at c15
            obtain ⟨ho1, ho2⟩ := hbnd hcx
            clear hbnd hcx
            go_wp2_with fail
            refine Go.Drawn.wp_region_inv (fun i => ([.slice (some ⟨b, off, none⟩) len cap, .int .i64 n, .pointer (some ⟨b, off + n, none⟩), .float .f64 x, .bool true, .bool true, .pointer (some ⟨w.heap.size, 2, none⟩), .float .f64 A.l, .slice (some ⟨b, off, none⟩) len cap, .int .i64 n, .pointer (some ⟨b, off + n, none⟩), .float .f64 x, .int .i64 (ord A.l x), .bool false, .bool false, .pointer (some ⟨w.heap.size, 3, none⟩), .float .f64 A.u, .slice (some ⟨b, off, none⟩) len cap, .int .i64 n, .pointer (some ⟨b, off + n, none⟩), .float .f64 x, .int .i64 (ord A.u x), .bool false, .bool false, .bool false] : List Value).getD i undef)
              (fun _ w' => N3 ⟨b, off + n, none⟩ x w A w') (by kernel_rfl) (by kernel_rfl) (by kernel_rfl) ?_ ?_ ?_
            · intro L hL
              exact HI.out.drew
            · intro L w3 hall hI3
              simp only [Go.Drawn.putAll, Act.put, List.getD_cons_zero, List.getD_cons_succ, List.setIfInBounds_toArray, List.set_cons_zero, List.set_cons_succ]
              have HI3 : Hid (N3 ⟨b, off + n, none⟩ x w A w3) := hI3
              clear hall hI3
              go_wp2
              go_roundw
              case rel => exact ⟨n + 1, by omega, by go_num, HI3.out.below, HI3.out.size, HI3.out.hg⟩
              case measure => simp [intOf]; omega
            · refine ⟨?_, ?_, ?_, ?_, ?_, ?_, ?_, ?_, ?_, ?_, ?_, ?_, ?_, ?_, ?_, ?_, ?_, ?_, ?_, ?_, ?_, ?_, ?_, ?_, ?_, trivial⟩
              · intro L a w' hL hsh hfr hI hu hu' hdeps K hK
                have s0 := hfr.old (t := 0) (by kernel_rfl) (v := .slice (some ⟨b, off, none⟩) len cap) rfl
                have hK' := hK w' hI
                clear hL hsh hfr hu hu' hdeps hK
                simp only [Region.wanted, if_true]
                clear hI
                go_simp
                exact hK'
              · intro L a w' hL hsh hfr hI hu hu' hdeps K hK
                have s8 := hfr.old (t := 8) (by kernel_rfl) (v := .int .i64 n) rfl
                have hK' := hK w' hI
                clear hL hsh hfr hu hu' hdeps hK
                simp only [Region.wanted, if_true]
                clear hI
                go_simp
                exact hK'
              · intro L a w' hL hsh hfr hI hu hu' hdeps K hK
                have s87 := hfr.got (j := 0) (d := 87) (by kernel_rfl) (Go.Drawn.dep_of hdeps (by kernel_rfl)) (v := .slice (some ⟨b, off, none⟩) len cap) rfl
                have s88 := hfr.got (j := 1) (d := 88) (by kernel_rfl) (Go.Drawn.dep_of hdeps (by kernel_rfl)) (v := .int .i64 n) rfl
                have i0 : (0 : Int) ≤ (n : Int) := by omega
                have i1 : (n : Int) < (len : Int) := by omega
                have hK' := hK w' hI
                clear hL hsh hfr hu hu' hdeps hK
                simp only [Region.wanted, if_true]
                clear hI
                go_simp
                exact hK'
              · intro L a w' hL hsh hfr hI hu hu' hdeps K hK
                have s89 := hfr.got (j := 2) (d := 89) (by kernel_rfl) (Go.Drawn.dep_of hdeps (by kernel_rfl)) (v := .pointer (some ⟨b, off + n, none⟩)) rfl
                have hx := hI.hx
                have hK' := hK w' hI
                clear hL hsh hfr hu hu' hdeps hK
                simp only [Region.wanted, if_true]
                clear hI
                go_simp
                exact hK'
              · intro L a w' hL hsh hfr hI hu hu' hdeps K hK
                have s90 := hfr.got (j := 3) (d := 90) (by kernel_rfl) (Go.Drawn.dep_of hdeps (by kernel_rfl)) (v := .float .f64 x) rfl
                have hK' := hK w' hI
                clear hL hsh hfr hu hu' hdeps hK
                simp only [Region.wanted, if_true]
                clear hI
                go_simp
                refine (c15 _).mono ?_
                rintro e w1 ⟨rfl, rfl⟩
                exact hK'
              · intro L a w' hL hsh hfr hI hu hu' hdeps K hK
                have s91 := hfr.got (j := 4) (d := 91) (by kernel_rfl) (Go.Drawn.dep_of hdeps (by kernel_rfl)) (v := .bool true) rfl
                have hK' := hK w' hI
                clear hL hsh hfr hu hu' hdeps hK
                simp only [Region.wanted, if_true]
                clear hI
                go_simp
                exact hK'
              · intro L a w' hL hsh hfr hI hu hu' hdeps K hK
                have s92 := hfr.got (j := 5) (d := 92) (by kernel_rfl) (Go.Drawn.dep_of hdeps (by kernel_rfl)) (v := .bool true) rfl
                have s5 := hfr.old (t := 5) (by kernel_rfl) (v := .pointer (some ⟨w.heap.size, 0, none⟩)) rfl
                have hK' := hK w' hI
                clear hL hsh hfr hu hu' hdeps hK
                rw [if_pos (by simp [Region.wanted, yielded, s92])]
                clear hI
                go_simp
                exact hK'
              · intro L a w' hL hsh hfr hI hu hu' hdeps K hK
                have s92 := hfr.got (j := 5) (d := 92) (by kernel_rfl) (Go.Drawn.dep_of hdeps (by kernel_rfl)) (v := .bool true) rfl
                have s93 := hfr.got (j := 6) (d := 93) (by kernel_rfl) (Go.Drawn.dep_of hdeps (by kernel_rfl)) (v := .pointer (some ⟨w.heap.size, 2, none⟩)) rfl
                have hg := hI.hg
                have c2 : w'.cell? ⟨w.heap.size, 2, none⟩ = some (.float .f64 A.l) := by simp [World.cell?, hg, G.cells]
                have c3 : w'.cell? ⟨w.heap.size, 3, none⟩ = some (.float .f64 A.u) := by simp [World.cell?, hg, G.cells]
                clear hg c3
                have hK' := hK w' hI
                clear hL hsh hfr hu hu' hdeps hK
                rw [if_pos (by simp [Region.wanted, yielded, s92])]
                clear hI
                go_simp
                exact hK'
              · intro L a w' hL hsh hfr hI hu hu' hdeps K hK
                have s92 := hfr.got (j := 5) (d := 92) (by kernel_rfl) (Go.Drawn.dep_of hdeps (by kernel_rfl)) (v := .bool true) rfl
                have s0 := hfr.old (t := 0) (by kernel_rfl) (v := .slice (some ⟨b, off, none⟩) len cap) rfl
                have hK' := hK w' hI
                clear hL hsh hfr hu hu' hdeps hK
                rw [if_pos (by simp [Region.wanted, yielded, s92])]
                clear hI
                go_simp
                exact hK'
              · intro L a w' hL hsh hfr hI hu hu' hdeps K hK
                have s92 := hfr.got (j := 5) (d := 92) (by kernel_rfl) (Go.Drawn.dep_of hdeps (by kernel_rfl)) (v := .bool true) rfl
                have s8 := hfr.old (t := 8) (by kernel_rfl) (v := .int .i64 n) rfl
                have hK' := hK w' hI
                clear hL hsh hfr hu hu' hdeps hK
                rw [if_pos (by simp [Region.wanted, yielded, s92])]
                clear hI
                go_simp
                exact hK'
              · intro L a w' hL hsh hfr hI hu hu' hdeps K hK
                have s92 := hfr.got (j := 5) (d := 92) (by kernel_rfl) (Go.Drawn.dep_of hdeps (by kernel_rfl)) (v := .bool true) rfl
                have s95 := hfr.got (j := 8) (d := 95) (by kernel_rfl) (Go.Drawn.dep_of hdeps (by kernel_rfl)) (v := .slice (some ⟨b, off, none⟩) len cap) rfl
                have s96 := hfr.got (j := 9) (d := 96) (by kernel_rfl) (Go.Drawn.dep_of hdeps (by kernel_rfl)) (v := .int .i64 n) rfl
                have i0 : (0 : Int) ≤ (n : Int) := by omega
                have i1 : (n : Int) < (len : Int) := by omega
                have hK' := hK w' hI
                clear hL hsh hfr hu hu' hdeps hK
                rw [if_pos (by simp [Region.wanted, yielded, s92])]
                clear hI
                go_simp
                exact hK'
              · intro L a w' hL hsh hfr hI hu hu' hdeps K hK
                have s92 := hfr.got (j := 5) (d := 92) (by kernel_rfl) (Go.Drawn.dep_of hdeps (by kernel_rfl)) (v := .bool true) rfl
                have s97 := hfr.got (j := 10) (d := 97) (by kernel_rfl) (Go.Drawn.dep_of hdeps (by kernel_rfl)) (v := .pointer (some ⟨b, off + n, none⟩)) rfl
                have hx := hI.hx
                have hK' := hK w' hI
                clear hL hsh hfr hu hu' hdeps hK
                rw [if_pos (by simp [Region.wanted, yielded, s92])]
                clear hI
                go_simp
                exact hK'
              · intro L a w' hL hsh hfr hI hu hu' hdeps K hK
                have s92 := hfr.got (j := 5) (d := 92) (by kernel_rfl) (Go.Drawn.dep_of hdeps (by kernel_rfl)) (v := .bool true) rfl
                have s94 := hfr.got (j := 7) (d := 94) (by kernel_rfl) (Go.Drawn.dep_of hdeps (by kernel_rfl)) (v := .float .f64 A.l) rfl
                have s98 := hfr.got (j := 11) (d := 98) (by kernel_rfl) (Go.Drawn.dep_of hdeps (by kernel_rfl)) (v := .float .f64 x) rfl
                have hK' := hK w' hI
                clear hL hsh hfr hu hu' hdeps hK
                rw [if_pos (by simp [Region.wanted, yielded, s92])]
                clear hI
                go_simp
                refine (c12 _).mono ?_
                rintro e w1 ⟨rfl, rfl⟩
                exact hK'
              · intro L a w' hL hsh hfr hI hu hu' hdeps K hK
                have s92 := hfr.got (j := 5) (d := 92) (by kernel_rfl) (Go.Drawn.dep_of hdeps (by kernel_rfl)) (v := .bool true) rfl
                have s99 := hfr.got (j := 12) (d := 99) (by kernel_rfl) (Go.Drawn.dep_of hdeps (by kernel_rfl)) (v := .int .i64 (ord A.l x)) rfl
                have ho := ho1.out
                have hK' := hK w' hI
                clear hL hsh hfr hu hu' hdeps hK
                rw [if_pos (by simp [Region.wanted, yielded, s92])]
                clear hI
                go_simp
                exact hK'
              · intro L a w' hL hsh hfr hI hu hu' hdeps K hK
                have s92 := hfr.got (j := 5) (d := 92) (by kernel_rfl) (Go.Drawn.dep_of hdeps (by kernel_rfl)) (v := .bool true) rfl
                have s100 := hfr.got (j := 13) (d := 100) (by kernel_rfl) (Go.Drawn.dep_of hdeps (by kernel_rfl)) (v := .bool false) rfl
                have hK' := hK w' hI
                clear hL hsh hfr hu hu' hdeps hK
                rw [if_pos (by simp [Region.wanted, yielded, s92])]
                clear hI
                go_simp
                exact hK'
              · intro L a w' hL hsh hfr hI hu hu' hdeps K hK
                have s101 := hfr.got (j := 14) (d := 101) (by kernel_rfl) (Go.Drawn.dep_of hdeps (by kernel_rfl)) (v := .bool false) rfl
                have s5 := hfr.old (t := 5) (by kernel_rfl) (v := .pointer (some ⟨w.heap.size, 0, none⟩)) rfl
                have hK' := hK w' hI
                clear hL hsh hfr hu hu' hdeps hK
                rw [if_pos (by simp [Region.wanted, yielded, s101])]
                clear hI
                go_simp
                exact hK'
              · intro L a w' hL hsh hfr hI hu hu' hdeps K hK
                have s101 := hfr.got (j := 14) (d := 101) (by kernel_rfl) (Go.Drawn.dep_of hdeps (by kernel_rfl)) (v := .bool false) rfl
                have s102 := hfr.got (j := 15) (d := 102) (by kernel_rfl) (Go.Drawn.dep_of hdeps (by kernel_rfl)) (v := .pointer (some ⟨w.heap.size, 3, none⟩)) rfl
                have hg := hI.hg
                have c2 : w'.cell? ⟨w.heap.size, 2, none⟩ = some (.float .f64 A.l) := by simp [World.cell?, hg, G.cells]
                have c3 : w'.cell? ⟨w.heap.size, 3, none⟩ = some (.float .f64 A.u) := by simp [World.cell?, hg, G.cells]
                clear hg c2
                have hK' := hK w' hI
                clear hL hsh hfr hu hu' hdeps hK
                rw [if_pos (by simp [Region.wanted, yielded, s101])]
                clear hI
                go_simp
                exact hK'
              · intro L a w' hL hsh hfr hI hu hu' hdeps K hK
                have s101 := hfr.got (j := 14) (d := 101) (by kernel_rfl) (Go.Drawn.dep_of hdeps (by kernel_rfl)) (v := .bool false) rfl
                have s0 := hfr.old (t := 0) (by kernel_rfl) (v := .slice (some ⟨b, off, none⟩) len cap) rfl
                have hK' := hK w' hI
                clear hL hsh hfr hu hu' hdeps hK
                rw [if_pos (by simp [Region.wanted, yielded, s101])]
                clear hI
                go_simp
                exact hK'
              · intro L a w' hL hsh hfr hI hu hu' hdeps K hK
                have s101 := hfr.got (j := 14) (d := 101) (by kernel_rfl) (Go.Drawn.dep_of hdeps (by kernel_rfl)) (v := .bool false) rfl
                have s8 := hfr.old (t := 8) (by kernel_rfl) (v := .int .i64 n) rfl
                have hK' := hK w' hI
                clear hL hsh hfr hu hu' hdeps hK
                rw [if_pos (by simp [Region.wanted, yielded, s101])]
                clear hI
                go_simp
                exact hK'
              · intro L a w' hL hsh hfr hI hu hu' hdeps K hK
                have s101 := hfr.got (j := 14) (d := 101) (by kernel_rfl) (Go.Drawn.dep_of hdeps (by kernel_rfl)) (v := .bool false) rfl
                have s104 := hfr.got (j := 17) (d := 104) (by kernel_rfl) (Go.Drawn.dep_of hdeps (by kernel_rfl)) (v := .slice (some ⟨b, off, none⟩) len cap) rfl
                have s105 := hfr.got (j := 18) (d := 105) (by kernel_rfl) (Go.Drawn.dep_of hdeps (by kernel_rfl)) (v := .int .i64 n) rfl
                have i0 : (0 : Int) ≤ (n : Int) := by omega
                have i1 : (n : Int) < (len : Int) := by omega
                have hK' := hK w' hI
                clear hL hsh hfr hu hu' hdeps hK
                rw [if_pos (by simp [Region.wanted, yielded, s101])]
                clear hI
                go_simp
                exact hK'
              · intro L a w' hL hsh hfr hI hu hu' hdeps K hK
                have s101 := hfr.got (j := 14) (d := 101) (by kernel_rfl) (Go.Drawn.dep_of hdeps (by kernel_rfl)) (v := .bool false) rfl
                have s106 := hfr.got (j := 19) (d := 106) (by kernel_rfl) (Go.Drawn.dep_of hdeps (by kernel_rfl)) (v := .pointer (some ⟨b, off + n, none⟩)) rfl
                have hx := hI.hx
                have hK' := hK w' hI
                clear hL hsh hfr hu hu' hdeps hK
                rw [if_pos (by simp [Region.wanted, yielded, s101])]
                clear hI
                go_simp
                exact hK'
              · intro L a w' hL hsh hfr hI hu hu' hdeps K hK
                have s101 := hfr.got (j := 14) (d := 101) (by kernel_rfl) (Go.Drawn.dep_of hdeps (by kernel_rfl)) (v := .bool false) rfl
                have s103 := hfr.got (j := 16) (d := 103) (by kernel_rfl) (Go.Drawn.dep_of hdeps (by kernel_rfl)) (v := .float .f64 A.u) rfl
                have s107 := hfr.got (j := 20) (d := 107) (by kernel_rfl) (Go.Drawn.dep_of hdeps (by kernel_rfl)) (v := .float .f64 x) rfl
                have hK' := hK w' hI
                clear hL hsh hfr hu hu' hdeps hK
                rw [if_pos (by simp [Region.wanted, yielded, s101])]
                clear hI
                go_simp
                refine (c12' _).mono ?_
                rintro e w1 ⟨rfl, rfl⟩
                exact hK'
              · intro L a w' hL hsh hfr hI hu hu' hdeps K hK
                have s101 := hfr.got (j := 14) (d := 101) (by kernel_rfl) (Go.Drawn.dep_of hdeps (by kernel_rfl)) (v := .bool false) rfl
                have s108 := hfr.got (j := 21) (d := 108) (by kernel_rfl) (Go.Drawn.dep_of hdeps (by kernel_rfl)) (v := .int .i64 (ord A.u x)) rfl
                have ho := ho2.out
                have hK' := hK w' hI
                clear hL hsh hfr hu hu' hdeps hK
                rw [if_pos (by simp [Region.wanted, yielded, s101])]
                clear hI
                go_simp
                exact hK'
              · intro L a w' hL hsh hfr hI hu hu' hdeps K hK
                have s92 := hfr.got (j := 5) (d := 92) (by kernel_rfl) (Go.Drawn.dep_of hdeps (by kernel_rfl)) (v := .bool true) rfl
                have s101 := hfr.got (j := 14) (d := 101) (by kernel_rfl) (Go.Drawn.dep_of hdeps (by kernel_rfl)) (v := .bool false) rfl
                have s109 := hfr.got (j := 22) (d := 109) (by kernel_rfl) (Go.Drawn.dep_of hdeps (by kernel_rfl)) (v := .bool false) rfl
                have hK' := hK w' hI
                clear hL hsh hfr hu hu' hdeps hK
                rw [if_pos (by simp [Region.wanted, yielded, s92])]
                clear hI
                go_simp
                exact hK'
              · intro L a w' hL hsh hfr hI hu hu' hdeps K hK
                have s92 := hfr.got (j := 5) (d := 92) (by kernel_rfl) (Go.Drawn.dep_of hdeps (by kernel_rfl)) (v := .bool true) rfl
                have s110 := hfr.got (j := 23) (d := 110) (by kernel_rfl) (Go.Drawn.dep_of hdeps (by kernel_rfl)) (v := .bool false) rfl
                have hK' := hK w' hI
                clear hL hsh hfr hu hu' hdeps hK
                simp only [Region.wanted, if_true]
                clear hI
                go_simp
                exact hK'
        · have a1 := fun w => alive_any w
          have HB2 : Hid (Below w.heap.size w wr) := hB
          have hg2 : Hid (wr.heap[w.heap.size]? = some (.cells A.cells 36)) := hg
          have v1 : (FloatKind.f64.format.order A.l A.s == some Ordering.lt || FloatKind.f64.format.order A.l A.s == some Ordering.eq) = true := leq_of_V (low_num hok.out.cl hhas.out.zero) (mid_num hok.out.cs hhas.out.zero) hhas.out.vl
          have v2 : (FloatKind.f64.format.order A.s A.u == some Ordering.lt || FloatKind.f64.format.order A.s A.u == some Ordering.eq) = true := leq_of_V (mid_num hok.out.cs hhas.out.zero) (up_num hok.out.cu hhas.out.zero) hhas.out.vu
          clear hB hg
          go_wp2_with fail
          refine (a1 _).mono ?_; rintro e w5 ⟨rfl, hf⟩
          have hg5 : w5.heap[w.heap.size]? = some (.cells A.cells 36) := (hf.2.block _ (by omega)).trans hg2.out
          have HF : Hid (Below w.heap.size w w5) := HB2.out.trans (hf.2.mono (by omega))
          have c2 : w5.cell? ⟨w.heap.size, 2, none⟩ = some (.float .f64 A.l) := by simp [World.cell?, hg5, G.cells]
          have c3 : w5.cell? ⟨w.heap.size, 3, none⟩ = some (.float .f64 A.u) := by simp [World.cell?, hg5, G.cells]
          have c4 : w5.cell? ⟨w.heap.size, 4, none⟩ = some (.float .f64 A.s) := by simp [World.cell?, hg5, G.cells]
          clear hf hg5 a1
          go_wp2
          go_ret
          exact ⟨rfl, HF.out⟩
end Go.Proofs.Ytnmadkallkoadaa
