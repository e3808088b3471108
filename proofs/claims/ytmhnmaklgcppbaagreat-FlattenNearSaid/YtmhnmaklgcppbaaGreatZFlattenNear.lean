/-
  FlattenNear: of any control points, any tolerance and any place the law tells true: the lines begin and end as the curve does; each point of the curve is within the tolerance of some line.
-/
import Derived.Test.YtmhnmaklgcppbaaGreatPkIa
import Derived.Test.YtmhnmaklgcppbaaGreatPkVa
import Derived.Test.YtmhnmaklgcppbaaGreatRows
import Derived.ProofKit
namespace Go.Proofs.YtmhnmaklgcppbaaGreat
open Go Go.Proofs
open Go.ChangeShapes Go.WideShapes Go.ChangeAt Go.RowKit
set_option linter.unusedSimpArgs false
set_option linter.unusedVariables false

set_option maxRecDepth 100000 in
theorem flattenNear_lifted (os : Os) (started : os.Started) (H : Type) (enc : TypeId × Value → H) :
    ReturnsInHanded {} Tryz.checked os 12 .any (Rows.flattenNearSpec.pre6 enc Tryz.prog Tryz.f12 Rows.flattenNearRow.domain false) (Rows.flattenNearSpec.post enc Tryz.prog Tryz.f12 false true false false) := by
  refine returnsInHanded_of_change (C := Tryz.checked) Tryz.own started (by kernel_rfl) Tryz.func12
    (ChangeSpec.witness6 (enc := enc) (C := Tryz.checked) false ⟨#[], #[.slice none 0 0, .agg #[.bool false, .slice none 0 0, .slice none 0 0], .int .u8 0], []⟩ 8 (by kernel_rfl) (by kernel_rfl) (by kernel_rfl) (by kernel_rfl)) ?_
  intro W base args ds gs before hval0 hW hcnd _
  have hval : ∀ (j : Nat) t v, Tryz.f12.params[j]? = some t → args[j]? = some v → Value.okWide Tryz.prog W .any base t v := hval0
  have hW' := hW
  obtain ⟨p, q, hA0, hV, rfl, hfz, hnd⟩ := hW
  have hA : DataW.TrodAll enc Tryz.prog W 0 (fun _ => true) true [22, 46, 5] args.toList ds p := hA0
  obtain ⟨w0, w1, w2, d0, d1, d2, p0, p1, p2, rfl, rfl, rfl, h0, h1, h2⟩ := trodAll_three hA
  obtain ⟨rfl, rfl⟩ := trodVars_none hV
  obtain ⟨fuel0, k0⟩ := h0
  obtain ⟨l0, ⟨v0, hl0, hm0, rfl⟩, hr0, hs0⟩ := opn_homs fuel0 _ _ k0
  have hc0 := slice_one (e := 48) (by kernel_rfl) (hval 0 22 w0 rfl rfl)
  obtain ⟨fuel1, k1⟩ := h1
  obtain ⟨l1, ⟨z1, hz1, rfl⟩, hr1, hs1⟩ := opn_rat fuel1 _ _ k1
  have hc1 := agg_agg (t := 46) (by kernel_rfl) (hval 1 46 w1 rfl rfl)
  obtain ⟨fuel2, k2⟩ := h2
  obtain ⟨l2, ⟨n2, rfl, hw2⟩, hr2, hs2⟩ := opn_int (k := .u8) (by kernel_rfl) fuel2 _ _ k2
  have hc2 := int_one (k := .u8) (by kernel_rfl) (hval 2 5 w2 rfl rfl)
  simp only [List.append_nil, List.append_assoc] at hW' ⊢
  exact law3 Tryz.func12 rfl (by kernel_rfl) rfl rfl rfl (fun _ _ _ => rfl) (by kernel_rfl) ⟨of_decide_eq_true (by kernel_rfl), of_decide_eq_true (by kernel_rfl), of_decide_eq_true (by kernel_rfl)⟩ ((fnear_pure v0 z1 n2 hl0 hm0 hz1 hw2)) (fun cx e1 e2 => rl_three (rl_one hc0 (hr0 cx e1 e2)) (rl_agg hc1 hs1 (hr1 cx e1 e2)) (rl_one hc2 (hr2 cx e1 e2))) ⟨fuel0, k0⟩ ⟨fuel1, k1⟩ ⟨fuel2, k2⟩ hW'

theorem flattenNear_holds : Rows.FlattenNearSaid :=
  OpenClaim.holds_of_wide 12 Tryz.f12 rfl rfl rfl rfl rfl rfl rfl ⟨rfl, rfl, rfl, rfl, rfl⟩ rfl rfl rfl rfl rfl (by kernel_rfl) Tryz.func12 (by kernel_rfl)
    (of_decide_eq_true (by kernel_rfl)) (by unfold Func.isWrapper; first | (rw [if_pos (by decide +kernel)]; kernel_rfl) | (rw [if_neg (by decide +kernel)]; exact ⟨rfl, rfl⟩))
    (fun os started H enc _ => flattenNear_lifted os started H enc)
end Go.Proofs.YtmhnmaklgcppbaaGreat
