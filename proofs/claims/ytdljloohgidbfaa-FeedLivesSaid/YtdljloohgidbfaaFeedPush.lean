/-
  The contract of Push: all events behind what each watcher has.
-/
import Derived.Test.YtdljloohgidbfaaFeedMap
import Derived.Test.YtdljloohgidbfaaStep
namespace Go.Proofs.Ytdljloohgidbfaa
open Go Go.RowKit Go.Mem

theorem FeedRows.keep {w w' : World} {fb mb last : Nat} {rows : List Row} (h : FeedRows w fb mb last rows) {S : Nat → Prop} (c : Chg S w w') (hS : ∀ k, Foot fb mb rows k → ¬ S k) : FeedRows w' fb mb last rows :=
  ⟨c.at h.feed (hS _ (.inl rfl)), ownsMap_chg h.map c (hS _ (.inr (.inl rfl))), fun r hr => (h.row r hr).chg c (hS _ (.inr (.inr ⟨r, hr, .inl rfl⟩))) fun _ hk => hS _ (.inr (.inr ⟨r, hr, .inr hk⟩)), h.apart, h.ids, h.upto, h.big, h.few⟩
theorem two_sl {w : World} {e sz e' sz' : Nat} {v v' : Value} {xs xs' : List (List Value)} (h : Sl w e sz v xs) (h' : Sl w e' sz' v' xs') (hne : e ≠ e') {k : Nat} (hk : v.ownBlock = some k) : v'.ownBlock ≠ some k := by
  intro hk'
  rcases h'.2 with ⟨hv, _⟩ | ⟨g, o, cap, cur, hv, hg, _⟩
  · rw [hv] at hk'; simp [Value.ownBlock] at hk'
  · rw [hv] at hk'; simp [Value.ownBlock] at hk'; subst hk'
    exact own_row h hg hne hk
theorem ev_apart {w : World} {fb mb last : Nat} {rows : List Row} (h : FeedRows w fb mb last rows) {v : Value} {xs : List (List Value)} (hev : Sl w 38 34 v xs) {k : Nat} (hk : v.ownBlock = some k) : ¬ Foot fb mb rows k := by
  rintro (rfl | rfl | ⟨r, hr, rfl | ho⟩)
  · exact own_row hev h.feed (by decide) hk
  · exact own_map hev h.map hk
  · exact own_row hev (h.row r hr).cell (by decide) hk
  · exact two_sl hev (h.row r hr).sl (by decide) hk ho
theorem ptrR_shape {v : Value} {y : DataW Unit × List MemPlace} (h : ptrR v = some y) : ∃ c, v = .pointer c := by
  unfold ptrR at h
  split at h
  · exact ⟨_, rfl⟩
  · exact ⟨_, rfl⟩
  · cases h
theorem half_start (evs : List Ev) (rows : List Row) : rows.map (half evs (Maps.has (DM rows))) = rows := by
  have : ∀ r ∈ rows, half evs (Maps.has (DM rows)) r = id r := fun r hr => by unfold half; rw [DM_has hr]; rfl
  rw [List.map_congr_left this, List.map_id]
theorem half_end (evs : List Ev) (rows : List Row) (left : Lit → Bool) (h : ∀ kl, left kl = false) : rows.map (half evs left) = rows.map (pushR evs) :=
  List.map_congr_left fun r _ => by unfold half; rw [h]; rfl
theorem Foot.lt {w : World} {fb mb last : Nat} {rows : List Row} (h : FeedRows w fb mb last rows) {k : Nat} (hk : Foot fb mb rows k) : k < w.heap.size := by
  rcases hk with rfl | rfl | ⟨r, hr, rfl | hk⟩
  · exact lt_of_at h.feed
  · exact h.map.lt
  · exact lt_of_at (h.row r hr).cell
  · exact (h.row r hr).sl.lt hk

set_option maxRecDepth 100000 in
set_option maxHeartbeats 4000000 in
theorem fpush_walk (fb mb last : Nat) (rows : List Row) (v : Value) (evs : List Ev) (w : World) (h : FeedRows w fb mb last rows) (hev : Sl w 38 34 v (evs.map Ev.cells)) (hn : evs.length ≤ 40) (hlost : ∀ r ∈ rows, r.lost + 40 < 1000000) :
    Calls Try.prog 10 #[.pointer (some ⟨fb, 0, none⟩), v] w fun e w' => e = .returned (.tuple #[]) ∧ ∃ rows', FeedRows w' fb mb last rows' ∧ rows'.map core = (rows.map (pushR evs)).map core ∧ Chg (Foot fb mb rows) w w' ∧ (∀ k, Foot fb mb rows' k → Foot fb mb rows k ∨ w.heap.size ≤ k) := by
  obtain ⟨va, vc, hv⟩ := hev.shape
  rw [List.length_map] at hv
  subst hv
  have hmd := fun w hh => made_any fb mb (.int .u64 last) w hh
  have hc0 : w.cell? ⟨fb, 0, none⟩ = some (.map (some mb)) := by simp [World.cell?, h.feed]
  have K : Maps.Keyed Try.prog 25 := Maps.int_keyed Try.underlying25
  have HF : Hid (FeedRows w fb mb last rows) := h
  have HE : Hid (Sl w 38 34 _ (evs.map Ev.cells)) := hev
  have hmap := h.map
  have hmd0 := hmd w h.feed
  clear h hev hmd
  go_enter Try.func10, Try.ntmps10
  go_wp2_with fail
  refine hmd0.mono ?_
  rintro e w9 ⟨rfl, hw9⟩
  rw [hw9]
  clear hw9 w9
  go_wp2_with (first | (at_range; refine wpList_range_own _ rfl _ 68 rfl 25 72 K Try.underlying68 _ mb rows.length (DM rows) rfl hmap ?_; intro w0 hrg0 hg0 hs0) | go_in)
  go_frame
  have HC0 : Hid (Chg (fun _ => False) w w0) := (Chg.of_grown hg0).mono fun _ _ h => by cases h
  have HS0 : Hid (w0.heap.size = w.heap.size + 1) := hs0
  have HLT : Hid (mb < w.heap.size ∧ fb < w.heap.size) := ⟨hmap.lt, lt_of_at HF.out.feed⟩
  obtain ⟨rb, hrb⟩ : ∃ rb, rb = w.heap.size := ⟨_, rfl⟩
  rw [← hrb] at hrg0 ⊢
  have HRB : Hid (rb = w.heap.size) := hrb
  have HRG : Hid (w0.ranges Try.prog 25 ptrR mb rb rows.length (DM rows) (Maps.has (DM rows)) (Maps.size (DM rows))) := hrg0
  clear hg0 hs0 hmap hrb hrg0 hc0 hmd0
  go_loopw [5] (fun _ wr => ∃ (left : Lit → Bool) (cnt : Nat) (rows' : List Row), wr.ranges Try.prog 25 ptrR mb rb rows.length (DM rows) left cnt ∧ (∀ kl, left kl = true → Maps.has (DM rows) kl = true) ∧ FeedRows wr fb mb last rows' ∧
      rows'.map core = (rows.map (half evs left)).map core ∧ Chg (Foot fb mb rows) w wr ∧ (∀ k, Foot fb mb rows' k → Foot fb mb rows k ∨ w.heap.size ≤ k) ∧ (∀ k, Foot fb mb rows' k → k ≠ rb) ∧ rb < wr.heap.size) (fun _ wr => wr.rangeLeft mb rb)
  case atStart =>
    have h := HF.out
    refine ⟨_, _, rows, HRG.out, fun _ h => h, ?_, ?_, HC0.out.mono (fun _ _ h => h.elim), fun k h => .inl h, ?_, by rw [HRB.out, HS0.out]; omega⟩
    · refine ⟨HC0.out.at h.feed id, HRG.out.owns, fun r hr => (h.row r hr).chg HC0.out id (fun _ _ h => h), h.apart, h.ids, h.upto, h.big, h.few⟩
    · rw [half_start]
    · intro k hk
      have := Foot.lt h hk
      rw [HRB.out]; omega
  case round =>
    obtain ⟨left, cnt, rows', hrg, hsub, hfr, hcore, hchg, hfoot, hne, hrl⟩ := hrel
    have HFR : Hid (FeedRows wr fb mb last rows') := hfr
    have HCR : Hid (rows'.map core = (rows.map (half evs left)).map core) := hcore
    have HCG : Hid (Chg (Foot fb mb rows) w wr) := hchg
    have HFT : Hid (∀ k, Foot fb mb rows' k → Foot fb mb rows k ∨ w.heap.size ≤ k) := hfoot
    have HNE : Hid (∀ k, Foot fb mb rows' k → k ≠ rb) := hne
    have HSUB : Hid (∀ kl, left kl = true → Maps.has (DM rows) kl = true) := hsub
    have HRL : Hid (rb < wr.heap.size) := hrl
    have HRG2 : Hid (wr.ranges Try.prog 25 ptrR mb rb rows.length (DM rows) left cnt) := hrg
    clear hfr hcore hchg hfoot hne hsub hrl HRG HC0 HS0
    go_wp2_with (first
      | (at_next; refine wpList_next_ranges _ rfl _ rfl 25 K ptrR (Value.int .u64) (Value.pointer) (fun key kl hkey => by obtain ⟨x, rfl, _⟩ := Maps.keyOf_int_inv Try.underlying25 hkey; exact ⟨x, rfl⟩) (fun v y hv => ptrR_shape hv) mb rb rows.length (DM rows) left cnt rfl hrg ?_ ?_)
      | go_in)
    · intro hc0 hl0
      clear hrg
      go_wp2
      go_end0
      exact ⟨rfl, rows', HFR.out, by rw [HCR.out, half_end _ _ _ hl0], HCG.out, HFT.out⟩
    · intro x c kl yd yp w1 cnt1 hkey hlk hRv hat hrg1 hlt hg1 hs1 hen
      obtain ⟨r0, hr0, hkl⟩ := has_DM (HSUB.out kl hlk)
      have hyd : yd = .lit (.int .u64 r0.blk) := by rw [← hat (.lit (.bool false)), hkl]; exact at_DM HF.out.ids hr0 _
      rw [hyd] at hRv
      have hc1 := ptrR_inv hRv
      have hc2 : c = some ⟨r0.blk, 0, none⟩ := by cases hc1; rfl
      subst hc2
      have hr : ∃ r ∈ rows', core r = core r0 := by
        have hm : core (half evs left r0) ∈ (rows.map (half evs left)).map core := List.mem_map.2 ⟨_, List.mem_map.2 ⟨r0, hr0, rfl⟩, rfl⟩
        rw [← HCR.out] at hm
        obtain ⟨r, h1, h2⟩ := List.mem_map.1 hm
        refine ⟨r, h1, h2.trans ?_⟩
        unfold half
        rw [← hkl, hlk]; rfl
      obtain ⟨r, hr, hcr⟩ := hr
      obtain ⟨A, B, hAB⟩ := row_split hr
      have hb1 : r.blk = r0.blk := congrArg (fun p => p.2.1) hcr
      have hid : r.id = r0.id := congrArg (fun p => p.1) hcr
      rw [← hb1] at hen
      have HK : Hid (kl = .int .u64 r.id) := by rw [hid]; exact hkl
      have HLO : Hid (r.lost + 40 < 1000000) := by have h1 : r.lost = r0.lost := congrArg (fun p => p.2.2.2) hcr; have := hlost r0 hr0; unfold Hid; omega
      have HB1 : Hid (r.blk = r0.blk) := hb1
      have c1 : Chg (fun k => k = rb) wr w1 := (Chg.of_grown hg1).mono fun _ _ h => by cases h; rfl
      have hf1 : FeedRows w1 fb mb last rows' := HFR.out.keep c1 HNE.out
      have HF1 : Hid (FeedRows w1 fb mb last (A ++ r :: B)) := by unfold Hid; rw [← hAB]; exact hf1
      have HC1 : Hid (Chg (Foot fb mb rows) w w1) := HCG.out.trans (c1.mono fun _ _ hk => .inr (by subst hk; rw [HRB.out]; omega))
      have HRG3 : Hid (w1.ranges Try.prog 25 ptrR mb rb rows.length (DM rows) (fun z => left z && !z.sameKey kl) cnt1) := hrg1
      have HSZ : Hid (w1.heap.size = wr.heap.size) := hs1
      have HCT : Hid (cnt1 < cnt) := hlt
      have HLK : Hid (left (.int .u64 r.id) = true) := by unfold Hid; rw [hid, ← hkl]; exact hlk
      have HAB : Hid (rows' = A ++ r :: B) := hAB
      clear hrg hkey hat c1 hf1 hcr hkl hyd hRv hrg1 hlt hg1 hs1 hlk hAB hc1
      go_wp2_with fail
      go_loopw [22] (fun i wr2 => ∃ (j : Nat) (sv : Value) (p : List It × Nat), j ≤ evs.length ∧ i = .int .i64 j ∧ p = (evs.take j).foldl pushI (r.items, r.lost) ∧ RowAt wr2 r.blk sv p.1 p.2 ∧ Chg (fun k => k = r.blk ∨ r.sv.ownBlock = some k) w1 wr2 ∧
          (sv.ownBlock = r.sv.ownBlock ∨ ∃ k, sv.ownBlock = some k ∧ w1.heap.size ≤ k)) (fun i _ => evs.length - (intOf i).toNat)
      case atStart => exact ⟨0, r.sv, (r.items, r.lost), by omega, rfl, rfl, HF1.out.row r (by simp), Chg.refl _ _, .inl rfl⟩
      case round =>
        obtain ⟨j, sv, p, hj, rfl, hp, hrow, hchg, hown⟩ := hrel
        have HROW : Hid _ := hrow
        have HCH2 : Hid _ := hchg
        have HOW2 : Hid _ := hown
        have HPP : Hid (p = (evs.take j).foldl pushI (r.items, r.lost)) := hp
        clear hrow hchg hown hp
        by_cases hjl : j < evs.length
        · have hft : ∀ k, (k = r.blk ∨ r.sv.ownBlock = some k) → Foot fb mb rows' k := fun k hk => .inr (.inr ⟨r, by rw [HAB.out]; simp, hk⟩)
          have hcw : Chg (Foot fb mb rows) w wr := HC1.out.trans (HCH2.out.mono fun k _ hk => by
            rcases HFT.out k (hft k hk) with h | h
            · exact .inl h
            · exact .inr h)
          have hevr : Sl wr 38 34 (.slice va evs.length vc) (evs.map Ev.cells) := HE.out.chg hcw fun k hk => ev_apart HF.out HE.out hk
          obtain ⟨e, he⟩ : ∃ e, evs[j]? = some e := ⟨_, List.getElem?_eq_getElem hjl⟩
          obtain ⟨g, o, cap, hva, hrange⟩ := hevr.at (i := j) (x := e.cells) (by rw [List.getElem?_map, he]; rfl)
          have hva1 : va = some ⟨g, o, none⟩ := (Value.slice.inj hva).1
          subst hva1
          have hRA : Hid (wr.rangeAt g (o + j * 34) e.cells) := hrange
          have hone : e.cells.toArray.all (·.oneCell') = true := by kernel_rfl
          clear hrange hva hevr hcw hft
          have tok1 : True := trivial
          have tok2 : True := trivial
          have tok3 : True := trivial
          go_wp2_with (first
            | (have _t := tok1; refine wpList_load_mid rfl 38 _ rfl g (o + j * 34) rfl e.cells _ hRA.out Try.underlying38 rfl (by kernel_rfl) ?_; clear tok1)
            | (have _t := tok2; refine Step.wpList_store_new rfl 38 _ _ rfl wr _ e.cells.toArray rfl rfl (by kernel_rfl) rfl hone ?_; clear tok2)
            | (have _t := tok3; refine Step.wpList_load_new rfl 38 _ rfl wr e.cells.toArray rfl _ Try.underlying38 rfl (by kernel_rfl) ?_; clear tok3)
            | fail)
          have hpl : p.1.length ≤ 16 := by rw [HPP.out]; exact foldl_le _ _ (HF1.out.few r (by simp))
          have hpb : p.2 < 1000000 := by
            have h1 := foldl_lost (evs.take j) (r.items, r.lost)
            rw [← HPP.out] at h1
            have h2 : (evs.take j).length ≤ j := List.length_take_le _ _
            have := HLO.out
            simp only at h1
            omega
          have hro : RowAt (wr.alloc (.cells e.cells.toArray 38)) r0.blk sv p.1 p.2 := by
            rw [← HB1.out]
            exact HROW.out.chg ((Chg.refl (fun _ => False) wr).alloc _) id fun _ _ h => h
          refine (push_any r0.blk sv p.1 p.2 e _ hro hpl hpb).mono ?_
          rintro x2 w2 ⟨rfl, hpu⟩
          have HPU : Hid (Pushed r0.blk sv (wr.alloc (.cells e.cells.toArray 38)) (pushI p e).1 (pushI p e).2 w2) := hpu
          clear hpu hro hpl hpb
          go_wp2_with fail
          obtain ⟨sv2, hr2, hc2, ho2⟩ := HPU.out
          rw [← HB1.out] at hr2 hc2
          refine ⟨?_, ?measure⟩
          · refine ⟨j + 1, sv2, pushI p e, by omega, by go_num, ?_, hr2, ?_, ?_⟩
            · rw [List.take_add_one, List.foldl_append, ← HPP.out, he]; rfl
            · refine HCH2.out.trans ?_
              have h0 : Chg (fun k => k = r.blk ∨ sv.ownBlock = some k) wr w2 := ((Chg.refl _ wr).alloc _).trans (hc2.mono fun _ _ h => .inl h)
              refine h0.mono fun k _ hk => ?_
              rcases hk with hk | hk
              · exact .inl (.inl hk)
              · rcases HOW2.out with h | ⟨k', hk', hl⟩
                · exact .inl (.inr (by rw [← h]; exact hk))
                · have : some k' = some k := hk'.symm.trans hk
                  cases this; exact .inr hl
            · have hsz := HCH2.out.size
              rcases ho2 with h | ⟨k, hk, hl⟩
              · rcases HOW2.out with h' | ⟨k', hk', hl'⟩
                · exact .inl (h.trans h')
                · exact .inr ⟨k', h.trans hk', hl'⟩
              · exact .inr ⟨k, hk, by simp at hl; omega⟩
          case measure => simp [intOf]; omega
        · have hjn : j = evs.length := by omega
          subst hjn
          have hp := HPP.out
          rw [List.take_length] at hp
          have hin : r ∈ rows' := by rw [HAB.out]; simp
          have hft : ∀ k, (k = r.blk ∨ r.sv.ownBlock = some k) → Foot fb mb rows' k := fun k hk => .inr (.inr ⟨r, hin, hk⟩)
          have hs1 : w.heap.size < w1.heap.size := by have := HSZ.out; have := HRL.out; have := HRB.out; omega
          have hfin : FeedRows wr fb mb last (A ++ { r with sv := sv, items := p.1, lost := p.2 } :: B) := HF1.out.turn sv p.1 p.2 HROW.out (by rw [hp]; exact foldl_le evs _ (HF1.out.few r (by simp))) HCH2.out HOW2.out
          have hfeet : ∀ k, Foot fb mb (A ++ { r with sv := sv, items := p.1, lost := p.2 } :: B) k → Foot fb mb rows' k ∨ w1.heap.size ≤ k := by
            rintro k (hk | hk | ⟨s, hs, hk⟩)
            · exact .inl (.inl hk)
            · exact .inl (.inr (.inl hk))
            · have other : s ∈ A ++ B → Foot fb mb rows' k := fun hs => .inr (.inr ⟨s, by rw [HAB.out]; rcases List.mem_append.1 hs with hs | hs <;> simp [hs], hk⟩)
              rcases List.mem_append.1 hs with hs | hs
              · exact .inl (other (List.mem_append.2 (.inl hs)))
              · rcases List.mem_cons.1 hs with rfl | hs
                · rcases hk with hk | hk
                  · exact .inl (hft k (.inl hk))
                  · rcases HOW2.out with ho | ⟨k', hk', hkl⟩
                    · exact .inl (hft k (.inr (by rw [← ho]; exact hk)))
                    · have : some k' = some k := hk'.symm.trans hk
                      cases this; exact .inr hkl
                · exact .inl (other (List.mem_append.2 (.inr hs)))
          go_wp2_with fail
          refine ⟨⟨(fun z => left z && !z.sameKey kl), cnt1, _, ranges_chg (show w1.ranges _ _ _ _ _ _ _ _ _ from HRG3.out) HCH2.out (fun hk => ?_) (fun hk => HNE.out _ (hft _ hk) rfl), fun z hz => HSUB.out z (by have := Bool.and_eq_true_iff.1 hz; exact this.1), hfin, ?_, ?_, fun k hk => ?_, fun k hk => ?_, ?_⟩, ?_⟩
          · rcases hk with hk | hk
            · exact cells_map (HF1.out.row r (by simp)).cell HF1.out.map hk.symm
            · exact own_map (HF1.out.row r (by simp)).sl HF1.out.map hk
          · have hcr := HCR.out
            rw [HAB.out] at hcr
            have hk1 := HK.out
            subst hk1
            refine cores_turn hcr HF1.out.ids HLK.out ?_
            unfold coreT
            rw [if_pos (show (core r).1 = r.id from rfl)]
            show (r.id, r.blk, p.1, p.2) = _
            rw [hp]; rfl
          · exact HC1.out.trans (HCH2.out.mono fun k _ hk => by
              rcases HFT.out k (hft k hk) with h | h
              · exact .inl h
              · exact .inr h)
          · rcases hfeet k hk with h | h
            · exact HFT.out k h
            · exact .inr (by omega)
          · rcases hfeet k hk with h | h
            · exact HNE.out k h
            · have := HRB.out; omega
          · have := HCH2.out.size; have := HRB.out; omega
          · rw [World.ranges.left_eq (ranges_chg (show w1.ranges _ _ _ _ _ _ _ _ _ from HRG3.out) HCH2.out (fun hk => ?_) (fun hk => HNE.out _ (hft _ hk) rfl)), World.ranges.left_eq HRG2.out]
            · exact HCT.out
            · rcases hk with hk | hk
              · exact cells_map (HF1.out.row r (by simp)).cell HF1.out.map hk.symm
              · exact own_map (HF1.out.row r (by simp)).sl HF1.out.map hk
end Go.Proofs.Ytdljloohgidbfaa
