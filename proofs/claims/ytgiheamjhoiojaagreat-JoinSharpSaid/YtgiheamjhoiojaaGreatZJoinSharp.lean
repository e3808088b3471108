/-
  JoinSharp: of any two directions and any two limits the law tells true: with a greater limit no fewer corners are sharp enough; straight on every one is, straight back none; scaled directions are as they were.
-/
import Derived.Test.YtgiheamjhoiojaaGreatPkIa
import Derived.Test.YtgiheamjhoiojaaGreatPkSa
import Derived.Test.YtgiheamjhoiojaaGreatRows
import Derived.ProofKit
namespace Go.Proofs.YtgiheamjhoiojaaGreat
open Go Go.Proofs
open Go.ChangeShapes Go.WideShapes Go.ChangeAt Go.RowKit
set_option linter.unusedSimpArgs false
set_option linter.unusedVariables false
set_option maxRecDepth 100000 in
theorem joinSharp_lifted (os : Os) (started : os.Started) (H : Type) (enc : TypeId × Value → H) :
    ReturnsInHanded {} Tryz.checked os 10 .any (Rows.joinSharpSpec.pre6 enc Tryz.prog Tryz.f10 Rows.joinSharpRow.domain false) (Rows.joinSharpSpec.post enc Tryz.prog Tryz.f10 false true false false) := by
  refine returnsInHanded_of_change (C := Tryz.checked) Tryz.own started (by kernel_rfl) Tryz.func10
    (ChangeSpec.witness6 (enc := enc) (C := Tryz.checked) false ⟨#[], #[.agg #[.bool false, .slice none 0 0, .slice none 0 0, .bool false, .slice none 0 0, .slice none 0 0], .agg #[.bool false, .slice none 0 0, .slice none 0 0, .bool false, .slice none 0 0, .slice none 0 0], .agg #[.bool false, .slice none 0 0, .slice none 0 0, .bool false, .slice none 0 0, .slice none 0 0]], []⟩ 8 (by kernel_rfl) (by kernel_rfl) (by kernel_rfl) (by kernel_rfl)) ?_
  intro W base args ds gs before hval0 hW hcnd _
  have hval : ∀ (j : Nat) t v, Tryz.f10.params[j]? = some t → args[j]? = some v → Value.okWide Tryz.prog W .any base t v := hval0
  have hW' := hW
  obtain ⟨p, q, hA0, hV, rfl, hfz, hnd⟩ := hW
  have hA : DataW.TrodAll enc Tryz.prog W 0 (fun _ => true) true [28, 28, 83] args.toList ds p := hA0
  obtain ⟨w0, w1, w2, d0, d1, d2, p0, p1, p2, rfl, rfl, rfl, h0, h1, h2⟩ := trodAll_three hA
  obtain ⟨rfl, rfl⟩ := trodVars_none hV
  obtain ⟨fuel0, k0⟩ := h0
  obtain ⟨l0, ⟨z0, hz0, rfl⟩, hr0, hs0⟩ := opn_pt fuel0 _ _ k0
  have hc0 := agg_agg (t := 28) (by kernel_rfl) (hval 0 28 w0 rfl rfl)
  obtain ⟨fuel1, k1⟩ := h1
  obtain ⟨l1, ⟨z1, hz1, rfl⟩, hr1, hs1⟩ := opn_pt fuel1 _ _ k1
  have hc1 := agg_agg (t := 28) (by kernel_rfl) (hval 1 28 w1 rfl rfl)
  obtain ⟨fuel2, k2⟩ := h2
  obtain ⟨l2, ⟨z2, y2, hz2, hy2, rfl⟩, hr2, hs2⟩ := opn_rat2 fuel2 _ _ k2
  have hc2 := agg_agg (t := 83) (by kernel_rfl) (hval 2 83 w2 rfl rfl)
  simp only [List.append_nil, List.append_assoc] at hW' ⊢
  exact law3 Tryz.func10 rfl (by kernel_rfl) rfl rfl rfl (fun _ _ _ => rfl) (by kernel_rfl) ⟨of_decide_eq_true (by kernel_rfl), of_decide_eq_true (by kernel_rfl), of_decide_eq_true (by kernel_rfl)⟩ ((joinsharp_pure z0 z1 z2 y2 hz0 hz1 hz2 hy2)) (fun cx e1 e2 => rl_three (rl_agg hc0 hs0 (hr0 cx e1 e2)) (rl_agg hc1 hs1 (hr1 cx e1 e2)) (rl_agg hc2 hs2 (hr2 cx e1 e2))) ⟨fuel0, k0⟩ ⟨fuel1, k1⟩ ⟨fuel2, k2⟩ hW'
theorem joinSharp_holds : Rows.JoinSharpSaid :=
  OpenClaim.holds_of_wide 10 Tryz.f10 rfl rfl rfl rfl rfl rfl rfl ⟨rfl, rfl, rfl, rfl, rfl⟩ rfl rfl rfl rfl rfl (by kernel_rfl) Tryz.func10 (by kernel_rfl)
    (of_decide_eq_true (by kernel_rfl)) (by unfold Func.isWrapper; first | (rw [if_pos (by decide +kernel)]; kernel_rfl) | (rw [if_neg (by decide +kernel)]; exact ⟨rfl, rfl⟩))
    (fun os started H enc _ => joinSharp_lifted os started H enc)
end Go.Proofs.YtgiheamjhoiojaaGreat
