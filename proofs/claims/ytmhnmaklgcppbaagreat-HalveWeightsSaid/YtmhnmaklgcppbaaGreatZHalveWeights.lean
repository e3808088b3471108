/-
  HalveWeights: of any control points the law tells true: weights stay above 0, and between the least and the greatest one, in both halves.
-/
import Derived.Test.YtmhnmaklgcppbaaGreatPkIa
import Derived.Test.YtmhnmaklgcppbaaGreatRows
import Derived.ProofKit
namespace Go.Proofs.YtmhnmaklgcppbaaGreat
open Go Go.Proofs
open Go.ChangeShapes Go.WideShapes Go.ChangeAt Go.RowKit
set_option linter.unusedSimpArgs false
set_option linter.unusedVariables false

set_option maxRecDepth 100000 in
theorem halveWeights_lifted (os : Os) (started : os.Started) (H : Type) (enc : TypeId × Value → H) :
    ReturnsInHanded {} Tryz.checked os 4 .any (Rows.halveWeightsSpec.pre6 enc Tryz.prog Tryz.f4 Rows.halveWeightsRow.domain false) (Rows.halveWeightsSpec.post enc Tryz.prog Tryz.f4 false true false false) := by
  refine returnsInHanded_of_change (C := Tryz.checked) Tryz.own started (by kernel_rfl) Tryz.func4
    (ChangeSpec.witness6 (enc := enc) (C := Tryz.checked) false ⟨#[], #[.slice none 0 0], []⟩ 8 (by kernel_rfl) (by kernel_rfl) (by kernel_rfl) (by kernel_rfl)) ?_
  intro W base args ds gs before hval0 hW hcnd _
  have hval : ∀ (j : Nat) t v, Tryz.f4.params[j]? = some t → args[j]? = some v → Value.okWide Tryz.prog W .any base t v := hval0
  have hW' := hW
  obtain ⟨p, q, hA0, hV, rfl, hfz, hnd⟩ := hW
  have hA : DataW.TrodAll enc Tryz.prog W 0 (fun _ => true) true [22] args.toList ds p := hA0
  obtain ⟨v0, d0, rfl, rfl, h0⟩ := trodAll_one hA
  obtain ⟨rfl, rfl⟩ := trodVars_none hV
  obtain ⟨fuel, h1⟩ := h0
  obtain ⟨l, ⟨v, hl, hm, rfl⟩, hr, _⟩ := opn_homs fuel _ _ h1
  have hc := slice_one (e := 48) (by kernel_rfl) (hval 0 22 v0 rfl rfl)
  simp only [List.append_nil] at hW' ⊢
  exact law1 Tryz.func4 rfl (by kernel_rfl) rfl rfl rfl (fun _ => rfl) (by kernel_rfl) (of_decide_eq_true (by kernel_rfl)) (hweights_pure v hl hm) (fun cx e1 e2 => rl_one hc (hr cx e1 e2)) ⟨fuel, h1⟩ hW'

theorem halveWeights_holds : Rows.HalveWeightsSaid :=
  OpenClaim.holds_of_wide 4 Tryz.f4 rfl rfl rfl rfl rfl rfl rfl ⟨rfl, rfl, rfl, rfl, rfl⟩ rfl rfl rfl rfl rfl (by kernel_rfl) Tryz.func4 (by kernel_rfl)
    (of_decide_eq_true (by kernel_rfl)) (by unfold Func.isWrapper; first | (rw [if_pos (by decide +kernel)]; kernel_rfl) | (rw [if_neg (by decide +kernel)]; exact ⟨rfl, rfl⟩))
    (fun os started H enc _ => halveWeights_lifted os started H enc)
end Go.Proofs.YtmhnmaklgcppbaaGreat
