/-
  GaugeEnds: for every input the law returns true; each argument reads behind the call as it read before. No condition.
-/
import Derived.Test.YtnmadkallkoadaaRows
import Derived.Test.YtnmadkallkoadaaEndsW
import Derived.Test.YtnmadkallkoadaaFloats
namespace Go.Proofs.Ytnmadkallkoadaa.gaugeEnds
open Go.ChangeShapes Go.WideShapes Go.ChangeAt Go.RowKit

theorem own : ownKnob Try.prog.godebug = none := by kernel_rfl
theorem cells22 : Try.prog.cellsOf 22 = 1 := by kernel_rfl

set_option maxRecDepth 100000 in
set_option maxHeartbeats 1000000 in
theorem ends_none (o : Option Addr) (cap : Nat) (turn : Int) (w : World) : Calls Try.prog 7 #[.slice o 0 cap, .int .i64 turn] w fun e w' => e = .returned (.bool true) ∧ Below w.heap.size w w' := by
  have e1 := fun w => alive_any w
  go_enter Try.func7, Try.ntmps7
  go_wp2_with fail
  refine (e1 _).mono ?_; rintro e w' ⟨rfl, hf⟩
  have HF : Hid (Fresh _ w') := hf
  clear hf e1
  go_wp2
  go_ret
  exact ⟨rfl, HF.out.2⟩
set_option maxRecDepth 100000 in
set_option maxHeartbeats 1000000 in
theorem ends_many (o : Option Addr) (len cap : Nat) (turn : Int) (w : World) (h : 200 < len) : Calls Try.prog 7 #[.slice o len cap, .int .i64 turn] w fun e w' => e = .returned (.bool true) ∧ Below w.heap.size w w' := by
  have e1 := fun w => alive_any w
  go_enter Try.func7, Try.ntmps7
  go_wp2_with fail
  refine (e1 _).mono ?_; rintro e w' ⟨rfl, hf⟩
  have HF : Hid (Fresh _ w') := hf
  clear hf e1
  go_wp2
  go_ret
  exact ⟨rfl, HF.out.2⟩

set_option maxRecDepth 100000 in
theorem lifted (os : Os) (started : os.Started) (H : Type) (enc : TypeId × Value → H) :
    ReturnsInHanded {} Try.checked os 7 .any (Rows.gaugeEndsSpec.pre6 enc Try.prog Try.f7 Rows.gaugeEndsRow.domain false) (Rows.gaugeEndsSpec.post enc Try.prog Try.f7 false true false false) := by
  refine returnsInHanded_of_change (C := Try.checked) own started (by kernel_rfl) Try.func7
    (ChangeSpec.witness6 (enc := enc) (C := Try.checked) false ⟨#[], #[.slice none 0 0, .int .i64 0], []⟩ 8 (by kernel_rfl) (by kernel_rfl) (by kernel_rfl) (by kernel_rfl)) ?_
  intro W base args ds gs before hval0 hW hcnd _
  have hval : ∀ (j : Nat) t v, Try.f7.params[j]? = some t → args[j]? = some v → Value.okWide Try.prog W .any base t v := hval0
  have hW' := hW
  obtain ⟨p, q, hA0, hV, rfl, hfz, hnd⟩ := hW
  have hA : DataW.TrodAll enc Try.prog W 0 (fun _ => true) true Try.f7.params.toList args.toList ds p := hA0
  rw [Try.params7] at hA hval
  obtain ⟨v0, vs0, d0, ds0, p0, q0, hargs, rfl, rfl, h0, r0⟩ := trodAll_cons hA
  obtain ⟨v1, vs1, d1, ds1, p1, q1, rfl, rfl, rfl, h1, r1⟩ := trodAll_cons r0
  obtain ⟨rfl, rfl, rfl⟩ := trodAll_nil r1
  obtain rfl : args = #[v0, v1] := by cases args; simp_all
  obtain ⟨rfl, rfl⟩ := trodVars_none hV
  have hpost : ∀ W', Below W.heap.size W W' → Rows.gaugeEndsSpec.post enc Try.prog Try.f7 false true false false W #[v0, v1] (.bool true) W' := fun W' hb =>
    Go.LawPost.law_post (by kernel_rfl) (by kernel_rfl) rfl rfl Try.underlying4 hW' rfl hb
  obtain ⟨turn, rfl, _, _, _⟩ := open_int Try.underlying3 (hval 1 3 v1 rfl rfl) h1
  rcases Go.LawPost.open_floats Try.underlying34 Try.underlying22 cells22 (okWide_slice Try.underlying34 (hval 0 34 v0 rfl rfl)) h0 with ⟨a, cap, rfl⟩ | ⟨b, off, len, cap, zs, rfl, hl, hpos, hlc, hcm, hz, hc⟩
  · exact (ends_none a cap turn W).mono fun e W' ⟨he, hg⟩ => ⟨_, he, hpost W' hg⟩
  · by_cases h200 : len ≤ 200
    · exact (ends_walk b off len cap zs turn W hl hpos h200 (fun x hx => wf_u64 (hz x hx)) hc).mono fun e W' ⟨he, hg⟩ => ⟨_, he, hpost W' hg⟩
    · exact (ends_many _ len cap turn W (by omega)).mono fun e W' ⟨he, hg⟩ => ⟨_, he, hpost W' hg⟩

theorem over : Rows.gaugeEndsRow.holds Try.pinned (OpenSpec.ofChange Rows.gaugeEndsSpec) :=
  OpenClaim.holds_of_wide 7 Try.f7 rfl rfl rfl rfl rfl rfl rfl ⟨rfl, rfl, rfl, rfl, rfl⟩ rfl rfl rfl rfl rfl (by kernel_rfl) Try.func7 (by kernel_rfl)
    (of_decide_eq_true (by kernel_rfl)) (by unfold Func.isWrapper; first | (rw [if_pos (by decide +kernel)]; kernel_rfl) | (rw [if_neg (by decide +kernel)]; exact ⟨rfl, rfl⟩))
    (fun os started H enc _ => lifted os started H enc)

theorem proved : Rows.GaugeEndsSaid :=
  over
end Go.Proofs.Ytnmadkallkoadaa.gaugeEnds
