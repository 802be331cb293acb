/-
  FeedNobody: for every input the law returns true; each argument reads behind the call as it read before. No condition.
-/
import Derived.Test.YtdljloohgidbfaaRows
import Derived.Test.YtdljloohgidbfaaNobodyW
import Derived.Test.YtdljloohgidbfaaArgs
import Derived.Lib.SmallJoins
namespace Go.Proofs.Ytdljloohgidbfaa.feedNobody
open Go Go.ChangeShapes Go.WideShapes Go.ChangeAt Go.RowKit Go.Args

theorem own : ownKnob Try.prog.godebug = none := by kernel_rfl

set_option maxRecDepth 100000 in
theorem lifted (os : Os) (started : os.Started) (H : Type) (enc : TypeId × Value → H) :
    ReturnsInHanded {} Try.checked os 7 .any (Rows.feedNobodySpec.pre6 enc Try.prog Try.f7 Rows.feedNobodyRow.domain false) (Rows.feedNobodySpec.post enc Try.prog Try.f7 false true false false) := by
  refine returnsInHanded_of_change (C := Try.checked) own started (by kernel_rfl) Try.func7
    (ChangeSpec.witness6 (enc := enc) (C := Try.checked) false ⟨#[], #[.agg #[.int .i64 0, .int .u64 0, .int .i64 0]], []⟩ 8 (by kernel_rfl) (by kernel_rfl) (by kernel_rfl) (by kernel_rfl)) ?_
  intro W base args ds gs before hval0 hW hcnd _
  have hval : ∀ (j : Nat) t v, Try.f7.params[j]? = some t → args[j]? = some v → Value.okWide Try.prog W .any base t v := hval0
  have hW' := hW
  obtain ⟨p, q, hA0, hV, rfl, hfz, hnd⟩ := hW
  have hA : DataW.TrodAll enc Try.prog W 0 (fun _ => true) true Try.f7.params.toList args.toList ds p := hA0
  rw [Try.params7] at hA hval
  obtain ⟨v0, vs0, d0, ds0, p0, q0, hargs, rfl, rfl, h0, r0⟩ := trodAll_cons hA
  obtain ⟨rfl, rfl, rfl⟩ := trodAll_nil r0
  obtain rfl : args = #[v0] := by cases args; simp_all
  obtain ⟨rfl, rfl⟩ := trodVars_none hV
  have hpost : ∀ W', Below W.heap.size W W' → Rows.feedNobodySpec.post enc Try.prog Try.f7 false true false false W #[v0] (.bool true) W' := fun W' hb =>
    Go.LawPost.law_post (by kernel_rfl) (by kernel_rfl) rfl rfl Try.underlying4 hW' rfl hb
  obtain ⟨x0, x1, x2, y0, y1, y2, m, rfl, _, _, t0, t1, t2⟩ := Go.Joins.open_agg3 Try.underlying45 (by kernel_rfl) (by kernel_rfl) (hval 0 45 v0 rfl rfl) h0
  obtain ⟨kind, e0, _, _⟩ := DataW.trod_int Try.underlying3 t0
  obtain ⟨id, e1, _, _⟩ := DataW.trod_int Try.underlying25 t1
  obtain ⟨n, e2, _, _⟩ := DataW.trod_int Try.underlying3 t2
  simp at e0 e1 e2
  subst e0 e1 e2
  exact ((nobody_walk kind id n W).mono fun e W' ⟨he, hg⟩ => (⟨he, hg.below (Nat.le_refl _) fun _ _ h => h.elim⟩ : e = Ending.returned (Value.bool true) ∧ Below W.heap.size W W')).mono fun e W' ⟨he, hg⟩ => ⟨_, he, hpost W' hg⟩

theorem over : Rows.feedNobodyRow.holds Try.pinned (OpenSpec.ofChange Rows.feedNobodySpec) :=
  OpenClaim.holds_of_wide 7 Try.f7 rfl rfl rfl rfl rfl rfl rfl ⟨rfl, rfl, rfl, rfl, rfl⟩ rfl rfl rfl rfl rfl (by kernel_rfl) Try.func7 (by kernel_rfl)
    (of_decide_eq_true (by kernel_rfl)) (by unfold Func.isWrapper; first | (rw [if_pos (by decide +kernel)]; kernel_rfl) | (rw [if_neg (by decide +kernel)]; exact ⟨rfl, rfl⟩))
    (fun os started H enc _ => lifted os started H enc)

theorem proved : Rows.FeedNobodySaid :=
  over
end Go.Proofs.Ytdljloohgidbfaa.feedNobody
