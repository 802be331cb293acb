/-
  GaugeSorts: for every input the law returns true; the argument reads behind the call as it read before. No condition.
-/
import Derived.Test.YtnmadkallkoadaaRows
import Derived.Test.YtnmadkallkoadaaSortsLaw
import Derived.Test.YtnmadkallkoadaaFloats2
namespace Go.Proofs.Ytnmadkallkoadaa.gaugeSorts
open Go.ChangeShapes Go.WideShapes Go.ChangeAt Go.RowKit

theorem own : ownKnob Try.prog.godebug = none := by kernel_rfl
theorem cells22 : Try.prog.cellsOf 22 = 1 := by kernel_rfl

set_option maxRecDepth 100000 in
theorem lifted (os : Os) (started : os.Started) (H : Type) (enc : TypeId × Value → H) :
    ReturnsInHanded {} Try.checked os 9 .any (Rows.gaugeSortsSpec.pre6 enc Try.prog Try.f9 Rows.gaugeSortsRow.domain false) (Rows.gaugeSortsSpec.post enc Try.prog Try.f9 false true false false) := by
  refine returnsInHanded_of_change (C := Try.checked) own started (by kernel_rfl) Try.func9
    (ChangeSpec.witness6 (enc := enc) (C := Try.checked) false ⟨#[], #[.slice none 0 0], []⟩ 8 (by kernel_rfl) (by kernel_rfl) (by kernel_rfl) (by kernel_rfl)) ?_
  intro W base args ds gs before hval0 hW hcnd _
  have hval : ∀ (j : Nat) t v, Try.f9.params[j]? = some t → args[j]? = some v → Value.okWide Try.prog W .any base t v := hval0
  have hW' := hW
  obtain ⟨p, q, hA0, hV, rfl, hfz, hnd⟩ := hW
  have hA : DataW.TrodAll enc Try.prog W 0 (fun _ => true) true Try.f9.params.toList args.toList ds p := hA0
  rw [Try.params9] at hA hval
  obtain ⟨v0, vs0, d0, ds0, p0, q0, hargs, rfl, rfl, h0, r0⟩ := trodAll_cons hA
  obtain ⟨rfl, rfl, rfl⟩ := trodAll_nil r0
  obtain rfl : args = #[v0] := by cases args; simp_all
  obtain ⟨rfl, rfl⟩ := trodVars_none hV
  have hpost : ∀ W', Below W.heap.size W W' → Rows.gaugeSortsSpec.post enc Try.prog Try.f9 false true false false W #[v0] (.bool true) W' := fun W' hb =>
    Go.LawPost.law_post (by kernel_rfl) (by kernel_rfl) rfl rfl Try.underlying4 hW' rfl hb
  rcases Go.LawPost.open_floats2 Try.underlying34 Try.underlying22 cells22 (okWide_slice Try.underlying34 (hval 0 34 v0 rfl rfl)) h0 with rfl | ⟨a, cap, rfl⟩ | ⟨b, off, len, cap, zs, rfl, hl, hpos, hlc, hcm, hz, hc⟩
  · exact (slaw_none W).mono fun e W' ⟨he, hg⟩ => ⟨_, he, hpost W' hg⟩
  · exact (slaw_empty a cap W).mono fun e W' ⟨he, hg⟩ => ⟨_, he, hpost W' hg⟩
  · by_cases h200 : len ≤ 200
    · exact (slaw_walk b off len cap zs W hl hpos h200 (fun x hx => wf_u64 (hz x hx)) hc).mono fun e W' ⟨he, hg⟩ => ⟨_, he, hpost W' hg⟩
    · exact (slaw_many _ len cap W (by omega)).mono fun e W' ⟨he, hg⟩ => ⟨_, he, hpost W' hg⟩

theorem over : Rows.gaugeSortsRow.holds Try.pinned (OpenSpec.ofChange Rows.gaugeSortsSpec) :=
  OpenClaim.holds_of_wide 9 Try.f9 rfl rfl rfl rfl rfl rfl rfl ⟨rfl, rfl, rfl, rfl, rfl⟩ rfl rfl rfl rfl rfl (by kernel_rfl) Try.func9 (by kernel_rfl)
    (of_decide_eq_true (by kernel_rfl)) (by unfold Func.isWrapper; first | (rw [if_pos (by decide +kernel)]; kernel_rfl) | (rw [if_neg (by decide +kernel)]; exact ⟨rfl, rfl⟩))
    (fun os started H enc _ => lifted os started H enc)

theorem proved : Rows.GaugeSortsSaid :=
  over
end Go.Proofs.Ytnmadkallkoadaa.gaugeSorts
