/-
  CapDots: of any point and any style the law tells true: one point alone is a square of the width, or a circle's polygon of half of it, or nothing.
-/
import Derived.Test.YtgiheamjhoiojaaGreatPkIa
import Derived.Test.YtgiheamjhoiojaaGreatPkEa
import Derived.Test.YtgiheamjhoiojaaGreatPkCa
import Derived.Test.YtgiheamjhoiojaaGreatRows
import Derived.ProofKit
namespace Go.Proofs.YtgiheamjhoiojaaGreat
open Go Go.Proofs
open Go.ChangeShapes Go.WideShapes Go.ChangeAt Go.RowKit
set_option linter.unusedSimpArgs false
set_option linter.unusedVariables false
set_option maxRecDepth 100000 in
theorem capDots_lifted (os : Os) (started : os.Started) (H : Type) (enc : TypeId × Value → H) :
    ReturnsInHanded {} Tryz.checked os 6 .any (Rows.capDotsSpec.pre6 enc Tryz.prog Tryz.f6 Rows.capDotsRow.domain false) (Rows.capDotsSpec.post enc Tryz.prog Tryz.f6 false true false false) := by
  refine returnsInHanded_of_change (C := Tryz.checked) Tryz.own started (by kernel_rfl) Tryz.func6
    (ChangeSpec.witness6 (enc := enc) (C := Tryz.checked) false ⟨#[], #[.agg #[.bool false, .slice none 0 0, .slice none 0 0, .bool false, .slice none 0 0, .slice none 0 0], .agg #[.bool false, .slice none 0 0, .slice none 0 0, .bool false, .slice none 0 0, .slice none 0 0, .int .i64 0, .int .i64 0, .bool false, .slice none 0 0, .slice none 0 0]], []⟩ 8 (by kernel_rfl) (by kernel_rfl) (by kernel_rfl) (by kernel_rfl)) ?_
  intro W base args ds gs before hval0 hW hcnd _
  have hval : ∀ (j : Nat) t v, Tryz.f6.params[j]? = some t → args[j]? = some v → Value.okWide Tryz.prog W .any base t v := hval0
  have hW' := hW
  obtain ⟨p, q, hA0, hV, rfl, hfz, hnd⟩ := hW
  have hA : DataW.TrodAll enc Tryz.prog W 0 (fun _ => true) true [28, 32] args.toList ds p := hA0
  obtain ⟨w0, w1, d0, d1, p0, p1, rfl, rfl, rfl, h0, h1⟩ := trodAll_two hA
  obtain ⟨rfl, rfl⟩ := trodVars_none hV
  obtain ⟨fuel0, k0⟩ := h0
  obtain ⟨l0, ⟨z0, hz0, rfl⟩, hr0, hs0⟩ := opn_pt fuel0 _ _ k0
  have hc0 := agg_agg (t := 28) (by kernel_rfl) (hval 0 28 w0 rfl rfl)
  obtain ⟨fuel1, k1⟩ := h1
  obtain ⟨l1, ⟨z1, hz1, rfl⟩, hr1, hs1⟩ := opn_style fuel1 _ _ k1
  have hc1 := agg_agg (t := 32) (by kernel_rfl) (hval 1 32 w1 rfl rfl)
  simp only [List.append_nil, List.append_assoc] at hW' ⊢
  exact law2 Tryz.func6 rfl (by kernel_rfl) rfl rfl rfl (fun _ _ => rfl) (by kernel_rfl) ⟨of_decide_eq_true (by kernel_rfl), of_decide_eq_true (by kernel_rfl)⟩ ((capdots_pure z0 z1 hz0 hz1)) (fun cx e1 e2 => rl_two (rl_agg hc0 hs0 (hr0 cx e1 e2)) (rl_agg hc1 hs1 (hr1 cx e1 e2))) ⟨fuel0, k0⟩ ⟨fuel1, k1⟩ hW'
theorem capDots_holds : Rows.CapDotsSaid :=
  OpenClaim.holds_of_wide 6 Tryz.f6 rfl rfl rfl rfl rfl rfl rfl ⟨rfl, rfl, rfl, rfl, rfl⟩ rfl rfl rfl rfl rfl (by kernel_rfl) Tryz.func6 (by kernel_rfl)
    (of_decide_eq_true (by kernel_rfl)) (by unfold Func.isWrapper; first | (rw [if_pos (by decide +kernel)]; kernel_rfl) | (rw [if_neg (by decide +kernel)]; exact ⟨rfl, rfl⟩))
    (fun os started H enc _ => capDots_lifted os started H enc)
end Go.Proofs.YtgiheamjhoiojaaGreat
