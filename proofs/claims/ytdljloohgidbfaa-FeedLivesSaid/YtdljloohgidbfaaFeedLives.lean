/-
  FeedLives: for every input the law returns true; each argument reads behind the call as it read before. No condition.
-/
import Derived.Test.YtdljloohgidbfaaRows
import Derived.Test.YtdljloohgidbfaaLivesW
namespace Go.Proofs.Ytdljloohgidbfaa.feedLives
open Go Go.ChangeShapes Go.WideShapes Go.ChangeAt Go.RowKit Go.Args

theorem own : ownKnob Try.prog.godebug = none := by kernel_rfl

set_option maxRecDepth 100000 in
theorem lifted (os : Os) (started : os.Started) (H : Type) (enc : TypeId × Value → H) :
    ReturnsInHanded {} Try.checked os 6 .any (Rows.feedLivesSpec.pre6 enc Try.prog Try.f6 Rows.feedLivesRow.domain false) (Rows.feedLivesSpec.post enc Try.prog Try.f6 false true false false) := by
  refine returnsInHanded_of_change (C := Try.checked) own started (by kernel_rfl) Try.func6
    (ChangeSpec.witness6 (enc := enc) (C := Try.checked) false ⟨#[], #[.slice none 0 0, .int .u64 0], []⟩ 8 (by kernel_rfl) (by kernel_rfl) (by kernel_rfl) (by kernel_rfl)) ?_
  intro W base args ds gs before hval0 hW hcnd _
  have hval : ∀ (j : Nat) t v, Try.f6.params[j]? = some t → args[j]? = some v → Value.okWide Try.prog W .any base t v := hval0
  have hW' := hW
  obtain ⟨p, q, hA0, hV, rfl, hfz, hnd⟩ := hW
  have hA : DataW.TrodAll enc Try.prog W 0 (fun _ => true) true Try.f6.params.toList args.toList ds p := hA0
  rw [Try.params6] at hA hval
  obtain ⟨v0, vs0, d0, ds0, p0, q0, hargs, rfl, rfl, h0, r0⟩ := trodAll_cons hA
  obtain ⟨v1, vs1, d1, ds1, p1, q1, rfl, rfl, rfl, h1, r1⟩ := trodAll_cons r0
  obtain ⟨rfl, rfl, rfl⟩ := trodAll_nil r1
  obtain rfl : args = #[v0, v1] := by cases args; simp_all
  obtain ⟨rfl, rfl⟩ := trodVars_none hV
  have hpost : ∀ W', Below W.heap.size W W' → Rows.feedLivesSpec.post enc Try.prog Try.f6 false true false false W #[v0, v1] (.bool true) W' := fun W' hb =>
    Go.LawPost.law_post (by kernel_rfl) (by kernel_rfl) rfl rfl Try.underlying4 hW' rfl hb
  obtain ⟨xs, hxs, hrd⟩ := open_int_structs (ks := [.i64, .u64, .i64]) Try.underlying43 Try.underlying45 (by kernel_rfl) (by kernel_rfl) (by decide) (by kernel_rfl) (okWide_slice Try.underlying43 (hval 0 43 v0 rfl rfl)) h0
  obtain ⟨a, cap, hv, hlc, hcm, _⟩ := id hrd
  rw [List.length_map] at hv hlc
  subst hv
  obtain ⟨y0, rfl, rfl, rfl, hy0⟩ := open_int Try.underlying25 (hval 1 25 v1 rfl rfl) h1
  have hy1 := u64_of hy0
  obtain ⟨y, rfl⟩ : ∃ y : Nat, y0 = y := ⟨y0.toNat, by omega⟩
  exact ((lives_walk a xs.length cap y xs W (by omega) hrd (fun x hx => ⟨(hxs x hx).1, fun m hm => u64_of ((hxs x hx).2 1 .u64 m rfl hm)⟩) rfl (Nat.le_trans hlc hcm)).mono fun e W' ⟨he, hg⟩ => (⟨he, hg.below (Nat.le_refl _) fun _ _ h => h.elim⟩ : e = Ending.returned (Value.bool true) ∧ Below W.heap.size W W')).mono fun e W' ⟨he, hg⟩ => ⟨_, he, hpost W' hg⟩

theorem over : Rows.feedLivesRow.holds Try.pinned (OpenSpec.ofChange Rows.feedLivesSpec) :=
  OpenClaim.holds_of_wide 6 Try.f6 rfl rfl rfl rfl rfl rfl rfl ⟨rfl, rfl, rfl, rfl, rfl⟩ rfl rfl rfl rfl rfl (by kernel_rfl) Try.func6 (by kernel_rfl)
    (of_decide_eq_true (by kernel_rfl)) (by unfold Func.isWrapper; first | (rw [if_pos (by decide +kernel)]; kernel_rfl) | (rw [if_neg (by decide +kernel)]; exact ⟨rfl, rfl⟩))
    (fun os started H enc _ => lifted os started H enc)

theorem proved : Rows.FeedLivesSaid :=
  over
end Go.Proofs.Ytdljloohgidbfaa.feedLives
