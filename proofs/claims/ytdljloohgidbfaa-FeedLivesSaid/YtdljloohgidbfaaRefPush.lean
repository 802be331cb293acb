/-
  The document's Push: events to all watchers.
-/
import Derived.Test.YtdljloohgidbfaaRefPush1
namespace Go.Proofs.Ytdljloohgidbfaa
open Go Go.RowKit Go.Mem

theorem map_split {α β : Type} {f : α → β} : ∀ {l : List α} {X Z : List β} {y : β}, l.map f = X ++ y :: Z → ∃ A r B, l = A ++ r :: B ∧ A.map f = X ∧ f r = y ∧ B.map f = Z
  | [], X, Z, y, h => by cases X <;> simp at h
  | a :: l, [], Z, y, h => by
    simp at h
    exact ⟨[], a, l, rfl, rfl, h.1, h.2⟩
  | a :: l, x :: X, Z, y, h => by
    simp at h
    obtain ⟨A, r, B, h1, h2, h3, h4⟩ := map_split h.2
    exact ⟨a :: A, r, B, by rw [h1]; rfl, by simp [h.1, h2], h3, h4⟩
theorem split_at {α : Type} {l : List α} {j : Nat} {r : α} (h : l[j]? = some r) : l = l.take j ++ r :: l.drop (j + 1) := by
  have hj := (List.getElem?_eq_some_iff.1 h).1
  have h1 := List.drop_eq_getElem_cons (l := l) (i := j) hj
  have h2 := (List.getElem?_eq_some_iff.1 h).2
  rw [h2] at h1
  rw [← h1, List.take_append_drop]
theorem index51 (w : World) (g o n c j : Nat) (h : j < n) : (Instr.indexAt 51 (.slice (some ⟨g, o, none⟩) n c) (.int .i64 j)).run Try.prog w = .ok (.pointer (some ⟨g, o + j * 3, none⟩)) w := by
  obtain ⟨i, hi, _, hz, _⟩ := info66
  exact Ex.index_sl Try.underlying51 hi hz w g o n c j .i64 h
theorem index56 (w : World) (g o n c j : Nat) (h : j < n) : (Instr.indexAt 56 (.slice (some ⟨g, o, none⟩) n c) (.int .i64 j)).run Try.prog w = .ok (.pointer (some ⟨g, o + j * 34, none⟩)) w := by
  obtain ⟨i, hi, _, hz, _⟩ := info78
  exact Ex.index_sl Try.underlying56 hi hz w g o n c j .i64 h
theorem load66 {w : World} {g o : Nat} {r : RRow} (h : w.rangeAt g o r.cells) : (Instr.loadAt 66 (.pointer (some ⟨g, o, none⟩))).run Try.prog w = .ok (.agg r.cells.toArray) w :=
  run_loadAt_mid w g o 66 r.cells _ h Try.underlying66 rfl (by kernel_rfl)
theorem load78 {w : World} {g o : Nat} {e : Ev} (h : w.rangeAt g o e.cells) : (Instr.loadAt 78 (.pointer (some ⟨g, o, none⟩))).run Try.prog w = .ok (.agg e.cells.toArray) w :=
  run_loadAt_mid w g o 78 e.cells _ h Try.underlying78 rfl (by kernel_rfl)
theorem one_row {w : World} {e sz : Nat} {r : RRow} {xs : List (List Value)} (h : Sl w e sz r.sv xs) : ∀ u ∈ r.cells, u.oneCell' = true := by
  obtain ⟨a, c, hv⟩ := h.shape
  intro u hu
  unfold RRow.cells at hu
  rw [hv] at hu
  simp at hu
  rcases hu with rfl | rfl | rfl <;> rfl
/-- what is left of the document's feed by its writers -/
theorem RFoot_turn {xb : Nat} {sv : Value} {A B : List RRow} {r r' : RRow} {s : Nat} (ho : ∀ k, r'.sv.ownBlock = some k → r.sv.ownBlock = some k ∨ s ≤ k) {k : Nat} (hk : RFoot xb sv (A ++ r' :: B) k) : RFoot xb sv (A ++ r :: B) k ∨ s ≤ k := by
  rcases hk with hk | hk | ⟨q, hq, hk⟩
  · exact .inl (.inl hk)
  · exact .inl (.inr (.inl hk))
  · rcases List.mem_append.1 hq with hq | hq
    · exact .inl (.inr (.inr ⟨q, List.mem_append.2 (.inl hq), hk⟩))
    · rcases List.mem_cons.1 hq with rfl | hq
      · rcases ho k hk with h | h
        · exact .inl (.inr (.inr ⟨r, by simp, h⟩))
        · exact .inr h
      · exact .inl (.inr (.inr ⟨q, List.mem_append.2 (.inr (List.mem_cons_of_mem _ hq)), hk⟩))
theorem rev_apart {w : World} {xb last : Nat} {sv : Value} {rows : List RRow} (h : RefRows w xb last sv rows) {v : Value} {xs : List (List Value)} (hev : Sl w 78 34 v xs) {k : Nat} (hk : v.ownBlock = some k) : ¬ RFoot xb sv rows k := by
  rintro (rfl | hk2 | ⟨r, hr, hk2⟩)
  · exact own_row hev h.cell (by decide) hk
  · exact two_sl hev h.sl (by decide) hk hk2
  · exact two_sl hev (h.row r hr) (by decide) hk hk2

/-- how it stands: those ahead of j are through, of the one at j k events -/
structure RMid (w : World) (xb last : Nat) (sv : Value) (rows : List RRow) (F : List AR) (wr : World) : Prop where
  now : ∃ rows', RefRows wr xb last sv rows' ∧ rows'.map absRR = F ∧ ∀ k, RFoot xb sv rows' k → RFoot xb sv rows k ∨ w.heap.size ≤ k
  chg : Chg (RFoot xb sv rows) w wr
theorem lost_of {F : List AR} {j : Nat} {y : AR} {evs : List Ev} {k : Nat} (hy : F[j]? = some y) (hl : ∀ a ∈ F, a.2.2 + 40 < 1000000) (hn : evs.length ≤ 40) : ((evs.take k).foldl pushI y.2).2 < 1000000 := by
  have h1 := foldl_lost (evs.take k) y.2
  have h2 := hl y (List.mem_of_getElem? hy)
  have h3 : (evs.take k).length ≤ evs.length := by rw [List.length_take]; omega
  omega

set_option maxRecDepth 100000 in
set_option maxHeartbeats 4000000 in
theorem rfpush_walk (xb last : Nat) (sv : Value) (rows : List RRow) (v : Value) (evs : List Ev) (F : List AR) (w : World) (h : RefRows w xb last sv rows) (hF : rows.map absRR = F) (hev : Sl w 78 34 v (evs.map Ev.cells)) (hn : evs.length ≤ 40) (hlost : ∀ a ∈ F, a.2.2 + 40 < 1000000) :
    Calls Try.prog 19 #[.pointer (some ⟨xb, 0, none⟩), v] w fun e w' => e = .returned (.tuple #[]) ∧ RMid w xb last sv rows (F.map (pushA evs)) w' := by
  obtain ⟨ea, ec, hv⟩ := hev.shape
  rw [List.length_map] at hv
  obtain ⟨a, c, hsv, _⟩ := Sl.shape2 h.sl
  rw [List.length_map] at hsv
  subst hv hsv
  obtain ⟨m, hm⟩ : ∃ m, m = evs.length := ⟨_, rfl⟩
  obtain ⟨n, hn8⟩ : ∃ n, n = rows.length := ⟨_, rfl⟩
  rw [← hm] at hev ⊢
  rw [← hn8] at h ⊢
  have hFl : F.length = n := by rw [← hF, List.length_map, hn8]
  have HF : Hid (F.length = n) := hFl
  have HM : Hid (m = evs.length) := hm
  have HE : Hid (Sl w 78 34 (.slice ea m ec) (evs.map Ev.cells)) := hev
  have H : Hid (RefRows w xb last (.slice a n c) rows) := h
  have HL : Hid (∀ a ∈ F, a.2.2 + 40 < 1000000) := hlost
  have H40 : Hid (evs.length ≤ 40) := hn
  have hb8 : n ≤ 8 := by rw [hn8]; exact h.num
  have hb40 : m ≤ 40 := by rw [hm]; exact hn
  have HI : Hid (RMid w xb last (.slice a n c) rows F w) := ⟨⟨rows, h, hF, fun k hk => .inl hk⟩, Chg.refl _ _⟩
  clear h hev hm hn8 hFl hlost hn hF
  go_enter Try.func19, Try.ntmps19
  go_wp2_with fail
  go_loopw [4] (fun i wr => ∃ j : Nat, j ≤ n ∧ i = .int .i64 j ∧ RMid w xb last (.slice a n c) rows ((F.take j).map (pushA evs) ++ F.drop j) wr) (fun i _ => n - (intOf i).toNat)
  case atStart => exact ⟨0, Nat.zero_le _, rfl, HI.out⟩
  case round =>
    obtain ⟨j, hj, rfl, hmid⟩ := hrel
    obtain ⟨⟨rows1, h1, hF1, hfo⟩, hch⟩ := hmid
    have hc0 : wr.cell? ⟨xb, 0, none⟩ = some (.slice a n c) := by simp [World.cell?, h1.cell]
    have HMID : Hid (RMid w xb last (.slice a n c) rows ((F.take j).map (pushA evs) ++ F.drop j) wr) := ⟨⟨rows1, h1, hF1, hfo⟩, hch⟩
    clear h1 hF1 hfo hch HI
    by_cases hjn : j < n
    · obtain ⟨y, hy⟩ : ∃ y, F[j]? = some y := ⟨_, List.getElem?_eq_getElem (by rw [HF.out]; exact hjn)⟩
      have HY : Hid (F[j]? = some y) := hy
      have HJL : Hid ((F.take j).length = j) := by unfold Hid; rw [List.length_take, HF.out]; omega
      clear hy
      go_wp2_with fail
      go_loopw [5] (fun i wr => ∃ k : Nat, k ≤ m ∧ i = .int .i64 k ∧ RMid w xb last (.slice a n c) rows ((F.take j).map (pushA evs) ++ pushA (evs.take k) y :: F.drop (j + 1)) wr) (fun i _ => m - (intOf i).toNat)
      case atStart =>
        refine ⟨0, Nat.zero_le _, rfl, ?_⟩
        have h := HMID.out
        rw [List.drop_eq_getElem_cons (by rw [HF.out]; exact hjn), (List.getElem?_eq_some_iff.1 HY.out).2] at h
        exact h
      case round =>
        obtain ⟨k, hk, rfl, hmid⟩ := hrel
        by_cases hkm : k < m
        · obtain ⟨⟨rows1, h1, hF1, hfo⟩, hch⟩ := hmid
          obtain ⟨A, r, B, rfl, hA, hr, hB⟩ := map_split hF1
          have hAl : A.length = j := by
            have h := congrArg List.length hA
            rw [List.length_map, List.length_map, HJL.out] at h
            exact h
          subst hAl
          obtain ⟨g, o, rfl⟩ := row_some h1.sl
          obtain ⟨E, hE⟩ : ∃ E, evs[k]? = some E := ⟨_, List.getElem?_eq_getElem (by rw [← HM.out]; exact hkm)⟩
          have hev : Sl wr 78 34 (.slice ea m ec) (evs.map Ev.cells) := HE.out.chg hch fun k hk => rev_apart H.out HE.out hk
          obtain ⟨eg, eo, ec', hve, hre⟩ := hev.at (i := k) (x := E.cells) (by rw [List.getElem?_map, hE]; rfl)
          have hea : ea = some ⟨eg, eo, none⟩ := (Value.slice.inj hve).1
          subst hea
          obtain ⟨g', o', c', hv', hrr⟩ := h1.sl.at (i := A.length) (x := r.cells) (by simp)
          have hv1 := (Value.slice.inj hv').1
          cases hv1
          clear hv'
          obtain ⟨W0, hW0⟩ : ∃ W0, W0 = wr.drew := ⟨_, rfl⟩
          have hr0 : RefRows W0 xb last (.slice (some ⟨g, o, none⟩) n c) (A ++ r :: B) := by rw [hW0]; exact h1.keep ((Chg.refl (fun _ => False) wr).drew) fun _ _ h => h
          have hpi : (r.items, r.lost) = (evs.take k).foldl pushI y.2 := congrArg Prod.snd hr
          have hrl : r.lost < 1000000 := by
            have h2 := lost_of (k := k) HY.out HL.out H40.out
            rw [← hpi] at h2; exact h2
          obtain ⟨sv2, W1, hsl1, hc1, hown, hcall⟩ := rpush_any r.id r.sv r.items r.lost E W0 (hr0.row r (by simp)) (h1.few r (by simp)) hrl
          obtain ⟨r2, hr2⟩ : ∃ r2 : RRow, r2 = ⟨r.id, sv2, (pushI (r.items, r.lost) E).1, (pushI (r.items, r.lost) E).2⟩ := ⟨_, rfl⟩
          have hcall : Calls Try.prog 30 #[.agg r.cells.toArray, .agg E.cells.toArray] W0 fun x w2 => x = .returned (.agg r2.cells.toArray) ∧ w2 = W1 := by rw [hr2]; exact hcall
          have hsl1 : Sl W1 80 35 r2.sv (r2.items.map It.cells) := by rw [hr2]; exact hsl1
          have hown : ∀ k, r2.sv.ownBlock = some k → r.sv.ownBlock = some k ∨ W0.heap.size ≤ k := by rw [hr2]; exact hown
          have hlen : ∀ (A B : List RRow) (r : RRow), (A ++ r :: B).map RRow.cells = A.map RRow.cells ++ r.cells :: B.map RRow.cells := fun A B r => by simp
          have hsl0 : Sl W1 66 3 (.slice (some ⟨g, o, none⟩) n c) ((A ++ r :: B).map RRow.cells) := hr0.sl.chg hc1 fun q hq => by
            intro he
            exact two_sl hr0.sl (hr0.row r (by simp)) (by decide) hq he
          rw [hlen] at hsl0
          obtain ⟨W2, hst, hsl2, hc2⟩ := Sl.setE (P := Try.prog) hsl0 (y := r2.cells) rfl (one_row hsl1) 66 (by kernel_rfl)
          rw [List.length_map] at hst
          have hg1 : r2.sv.ownBlock ≠ some g := fun he => two_sl hsl1 hsl0 (by decide) he rfl
          have hcA : Chg (fun q => (Value.slice (some ⟨g, o, none⟩) n c).ownBlock = some q ∨ r.sv.ownBlock = some q) W0 W2 := (hc1.mono (T := fun q => (Value.slice (some ⟨g, o, none⟩) n c).ownBlock = some q ∨ r.sv.ownBlock = some q) fun _ _ h => .inr h).trans (hc2.mono fun q _ h => .inl (.inl (by rw [h]; rfl)))
          have hn2 : r2.items.length ≤ 16 := by rw [hr2]; exact pushI_le _ E (h1.few r (by simp))
          have h2 : RefRows W2 xb last (.slice (some ⟨g, o, none⟩) n c) (A ++ r2 :: B) := hr0.turn r2 (by rw [hr2]) (by rw [hlen]; exact hsl2) (hsl1.chg hc2 fun q hq he => hg1 (by rw [hq, he])) hn2 hcA hown
          have habs : absRR r2 = pushA (evs.take (k + 1)) y := by
            have e2 : absRR r2 = (r.id, pushI (r.items, r.lost) E) := by rw [hr2]; rfl
            have e1 : r.id = y.1 := congrArg Prod.fst hr
            rw [e2, hpi, e1]
            unfold pushA
            rw [List.take_add_one, hE, Option.toList_some, List.foldl_append]
            rfl
          have HN : Hid (RMid w xb last (.slice (some ⟨g, o, none⟩) n c) rows ((F.take A.length).map (pushA evs) ++ pushA (evs.take (k + 1)) y :: F.drop (A.length + 1)) W2) := by
            refine ⟨⟨A ++ r2 :: B, h2, by rw [List.map_append, List.map_cons, hA, hB, habs], fun q hq => ?_⟩, ?_⟩
            · rcases RFoot_turn (s := W0.heap.size) hown hq with h | h
              · exact hfo q h
              · refine .inr (Nat.le_trans hch.size ?_)
                rw [hW0] at h; exact h
            · refine hch.trans ?_
              have hcA' : Chg (fun q => (Value.slice (some ⟨g, o, none⟩) n c).ownBlock = some q ∨ r.sv.ownBlock = some q) wr W2 := by rw [hW0] at hcA; exact (Chg.refl _ wr).drew.trans (hcA.mono fun _ _ h => .inl h)
              refine hcA'.mono fun q _ hq => ?_
              refine hfo q ?_
              rcases hq with hq | hq
              · exact .inr (.inl hq)
              · exact .inr (.inr ⟨r, by simp, hq⟩)
          have hl0 : (Instr.loadAt 51 (.pointer (some ⟨xb, 0, none⟩))).run Try.prog W0 = .ok (.slice (some ⟨g, o, none⟩) n c) W0 := Ex.load1 Try.underlying51 rfl (by simp [World.cell?, hr0.cell])
          have hxb1 : W1.heap[xb]? = some (.cells #[.slice (some ⟨g, o, none⟩) n c, .int .u64 last] 53) := hc1.at hr0.cell fun he => own_row (hr0.row r (by simp)) hr0.cell (by decide) he
          have hl1 : (Instr.loadAt 51 (.pointer (some ⟨xb, 0, none⟩))).run Try.prog W1 = .ok (.slice (some ⟨g, o, none⟩) n c) W1 := Ex.load1 Try.underlying51 rfl (by simp [World.cell?, hxb1])
          have hi0 := index51 W0 g o n c A.length hjn
          have hi1 := index51 W1 g o n c A.length hjn
          have hie := index56 W0 eg eo m ec k hkm
          have hrr0 : W0.rangeAt g (o + A.length * 3) r.cells := by rw [hW0]; exact hrr
          have hre0 : W0.rangeAt eg (eo + k * 34) E.cells := by rw [hW0]; exact hre
          have hlr := load66 hrr0
          have hle := load78 hre0
          have HW0 : Hid (W0 = wr.drew) := hW0
          clear hF1 hfo hch hA hr hB hE hev hre hve hrr hr0 hpi hrl hsl1 hc1 hown hr2 hlen hsl0 hsl2 hc2 hg1 hcA hn2 h2 habs hxb1 hrr0 hre0 hW0 h1
          go_wp2_with fail
          refine Go.Drawn.wp_region_chain [[], [0], [0, 1], [0, 1, 2], [], [], [5], [5, 6], [5, 6, 7], [], [5, 6, 7, 8, 9], [5, 6, 7, 8, 9, 10], [], [], [12, 13], [12, 13, 14], [5, 6, 7, 8, 9, 10, 11, 12, 13, 14, 15], [0, 1, 2, 3, 4, 5, 6, 7, 8, 9, 10, 11, 12, 13, 14, 15, 16], [0, 1, 2, 3, 4, 5, 6, 7, 8, 9, 10, 11, 12, 13, 14, 15, 16, 17]] [.pointer (some ⟨xb, 0, none⟩), .pointer (some ⟨xb, 0, none⟩), .pointer (some ⟨xb, 0, none⟩), .slice (some ⟨g, o, none⟩) n c, .int .i64 A.length, .pointer (some ⟨xb, 0, none⟩), .pointer (some ⟨xb, 0, none⟩), .pointer (some ⟨xb, 0, none⟩), .slice (some ⟨g, o, none⟩) n c, .int .i64 A.length, .pointer (some ⟨g, o + A.length * 3, none⟩), .agg r.cells.toArray, .slice (some ⟨eg, eo, none⟩) m ec, .int .i64 k, .pointer (some ⟨eg, eo + k * 34, none⟩), .agg E.cells.toArray, .agg r2.cells.toArray, .pointer (some ⟨g, o + A.length * 3, none⟩), undef] (fun k => ([W0, W1, W2] : List World).getD k (W0)) [16, 18] [[0, 1], [0, 1], [0, 1], [0, 1], [0, 1], [0], [0], [0], [0], [0], [0], [0], [0], [0], [0], [0], [0], [1], [1]] (by kernel_rfl) (by kernel_rfl) (by kernel_rfl) (by kernel_rfl) (by kernel_rfl) (by kernel_rfl) ?_ ?_ ?_
          · exact HW0.out
          · exact ⟨⟨(.val (by kernel_rfl) (by kernel_rfl)), (.val (by kernel_rfl) (by kernel_rfl)), trivial⟩,
      ⟨(.val (by kernel_rfl) (by kernel_rfl)), (.val (by kernel_rfl) (by kernel_rfl)), trivial⟩,
      ⟨(.val (by kernel_rfl) (by kernel_rfl)), (.val (by kernel_rfl) (by kernel_rfl)), trivial⟩,
      ⟨(.val (by kernel_rfl) (Ex.load rfl hl0)), (.val (by kernel_rfl) (Ex.load rfl hl1)), trivial⟩,
      ⟨(.val (by kernel_rfl) (by kernel_rfl)), (.val (by kernel_rfl) (by kernel_rfl)), trivial⟩,
      ⟨(.val (by kernel_rfl) (by kernel_rfl)), trivial⟩,
      ⟨(.val (by kernel_rfl) (by kernel_rfl)), trivial⟩,
      ⟨(.val (by kernel_rfl) (by kernel_rfl)), trivial⟩,
      ⟨(.val (by kernel_rfl) (Ex.load rfl hl0)), trivial⟩,
      ⟨(.val (by kernel_rfl) (by kernel_rfl)), trivial⟩,
      ⟨(.val (by kernel_rfl) (Ex.indexAddr rfl hi0)), trivial⟩,
      ⟨(.val (by kernel_rfl) (Ex.load rfl hlr)), trivial⟩,
      ⟨(.val (by kernel_rfl) (by kernel_rfl)), trivial⟩,
      ⟨(.val (by kernel_rfl) (by kernel_rfl)), trivial⟩,
      ⟨(.val (by kernel_rfl) (Ex.indexAddr rfl hie)), trivial⟩,
      ⟨(.val (by kernel_rfl) (Ex.load rfl hle)), trivial⟩,
      ⟨(.call (by kernel_rfl) (by kernel_rfl) hcall), trivial⟩,
      ⟨(.val (by kernel_rfl) (Ex.indexAddr rfl hi1)), trivial⟩,
      ⟨(.skip (by kernel_rfl) (Ex.store rfl hst) rfl), trivial⟩,
      trivial⟩
          simp only [Go.Drawn.putAll, Act.put, List.getD_cons_zero, List.getD_cons_succ, List.setIfInBounds_toArray, List.set_cons_zero, List.set_cons_succ, List.length_cons, List.length_nil, Nat.reduceAdd]
          clear hl0 hl1 hi0 hi1 hie hlr hle hcall hst
          go_wp2_with fail
          refine ⟨⟨k + 1, by omega, by go_num, HN.out⟩, ?_⟩
          simp [intOf]; omega
        · have hkm' : k = m := by omega
          have HK : Hid (k = m) := hkm'
          have HMI : Hid _ := hmid
          clear hkm' hmid
          go_wp2_with fail
          refine ⟨⟨j + 1, by omega, by go_num, ?_⟩, ?_⟩
          · have h := HMI.out
            rw [HK.out, HM.out, List.take_length] at h
            rw [List.take_add_one, HY.out, Option.toList_some, List.map_append, List.append_assoc]
            exact h
          · simp [intOf]; omega
    · have hjn' : j = n := by omega
      have HJ : Hid (j = n) := hjn'
      clear hjn'
      go_wp2_with fail
      go_end0
      refine ⟨rfl, ?_⟩
      have h := HMID.out
      rw [HJ.out, ← HF.out, List.take_length, List.drop_length, List.append_nil, HF.out] at h
      exact h

theorem rpush_is {w : World} {p : Value} {F : Nat × List AR} {S : Nat → Prop} (h : IsRef w p F S) (v : Value) (evs : List Ev) (hev : Sl w 78 34 v (evs.map Ev.cells)) (hn : evs.length ≤ 40) (hlost : ∀ a ∈ F.2, a.2.2 + 40 < 1000000) :
    Calls Try.prog 19 #[p, v] w fun e w' => e = .returned (.tuple #[]) ∧ ∃ S', IsRef w' p (F.1, F.2.map (pushA evs)) S' ∧ (∀ k, S' k → S k ∨ w.heap.size ≤ k) ∧ Chg S w w' := by
  obtain ⟨xb, sv, rows, rfl, hf, hF, hS⟩ := h
  refine (rfpush_walk xb F.1 sv rows v evs F.2 w hf hF hev hn hlost).mono ?_
  rintro e w' ⟨rfl, ⟨rows', h1, h2, h3⟩, h4⟩
  exact ⟨rfl, RFoot xb sv rows', ⟨xb, sv, rows', rfl, h1, h2, fun _ => Iff.rfl⟩, fun k hk => (h3 k hk).imp (fun h => (hS k).2 h) id, h4.mono fun k _ h => (hS k).2 h⟩
end Go.Proofs.Ytdljloohgidbfaa
