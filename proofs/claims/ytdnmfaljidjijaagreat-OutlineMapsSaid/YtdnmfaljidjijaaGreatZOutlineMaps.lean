/-
 OutlineMaps: of a path of lines alone the mapped lines are the lines, mapped. For every input; no condition beside the statement's own.
-/
import Derived.Test.YtdnmfaljidjijaaGreatPk05
import Derived.Test.YtdnmfaljidjijaaGreatPk07
import Derived.Test.YtdnmfaljidjijaaGreatRows
import Derived.ProofKit
namespace Go.Proofs.YtdnmfaljidjijaaGreat
open Go Go.Proofs
open Go.ChangeShapes Go.WideShapes Go.ChangeAt Go.RowKit
set_option linter.unusedSimpArgs false
set_option linter.unusedVariables false
set_option maxRecDepth 100000 in
theorem jl (os:Os) (started:os.Started) (H:Type) (enc:TypeId×Value→H) :
 ReturnsInHanded {} Tryz.checked os 7 .any (Rows.outlineMapsSpec.pre6 enc Tryz.prog Tryz.f7 Rows.outlineMapsRow.domain false) (Rows.outlineMapsSpec.post enc Tryz.prog Tryz.f7 false true false false):=by
 refine returnsInHanded_of_change (C:=Tryz.checked) Tryz.own started (by kernel_rfl) Tryz.func7
  (ChangeSpec.witness6 (enc:=enc) (C:=Tryz.checked) false ⟨#[],#[.slice none 0 0,.agg #[.bool false,.slice none 0 0,.slice none 0 0,.bool false,.slice none 0 0,.slice none 0 0,.bool false,.slice none 0 0,.slice none 0 0,.bool false,.slice none 0 0,.slice none 0 0,.bool false,.slice none 0 0,.slice none 0 0,.bool false,.slice none 0 0,.slice none 0 0]],[]⟩ 8 (by kernel_rfl) (by kernel_rfl) (by kernel_rfl) (by kernel_rfl)) ?_
 intro W base args ds gs before hval0 hW hcnd _
 have hval:∀(j:Nat) t v,Tryz.f7.params[j]?=some t→args[j]?=some v→Value.okWide Tryz.prog W .any base t v:=hval0
 have hW':=hW
 obtain ⟨p,q,hA0,hV,rfl,hfz,hnd⟩:=hW
 have hA:DataW.TrodAll enc Tryz.prog W 0 (fun _=>true) true [22,29] args.toList ds p:=hA0
 obtain ⟨w0,w1,d0,d1,p0,p1,rfl,rfl,rfl,h0,h1⟩:=trodAll_two hA
 obtain ⟨rfl,rfl⟩:=trodVars_none hV
 obtain ⟨fuel0,k0⟩:=h0
 obtain ⟨l0,⟨v0,hl0,rfl⟩,hr0,hs0⟩:=rV fuel0 _ _ k0
 have hc0:=o5 (e:=82) (by kernel_rfl) (hval 0 22 w0 rfl rfl)
 obtain ⟨fuel1,k1⟩:=h1
 obtain ⟨l1,⟨z1,hz1,rfl⟩,hr1,hs1⟩:=CF fuel1 _ _ k1
 have hc1:=Bu (t:=29) (by kernel_rfl) (hval 1 29 w1 rfl rfl)
 simp only [List.append_nil,List.append_assoc] at hW' ⊢
 exact H3 Tryz.func7 rfl (by kernel_rfl) rfl rfl rfl (fun _ _=>rfl) (by kernel_rfl) ⟨of_decide_eq_true (by kernel_rfl),of_decide_eq_true (by kernel_rfl)⟩ (kJ v0 z1 hl0 hz1) (fun cx e1 e2=>AO (ue hc0 (hr0 cx e1 e2)) (E3 hc1 hs1 (hr1 cx e1 e2))) ⟨fuel0,k0⟩ ⟨fuel1,k1⟩ hW'
theorem mW:(Rows.outlineMapsRow.inPlace == Tryz.pinned.checked.prog.inPlace 7)=true:=by kernel_rfl
theorem m9:(Rows.outlineMapsRow.unfollowed == Tryz.pinned.checked.prog.unfollowed 7)=true:=by kernel_rfl
theorem mZ:(Rows.outlineMapsRow.recurses == Tryz.pinned.checked.prog.recurses 7)=true:=by kernel_rfl
theorem mY:(Rows.outlineMapsRow.named == Tryz.pinned.checked.prog.varsNamed 7)=true:=by kernel_rfl
theorem mX:joinedFacts Tryz.pinned.checked.prog 7 Tryz.f7 Rows.outlineMapsSpec Rows.outlineMapsRow=true:=by
 unfold joinedFacts
 rw [mW,m9,mZ,mY]
 kernel_rfl
theorem outlineMaps_holds:Rows.OutlineMapsSaid :=
 OpenClaim.holds_of_wide 7 Tryz.f7 rfl rfl rfl rfl rfl rfl rfl ⟨rfl,rfl,rfl,rfl,rfl⟩ rfl rfl rfl rfl rfl (by kernel_rfl) Tryz.func7 mX
  (of_decide_eq_true (by kernel_rfl)) (by unfold Func.isWrapper; first|(rw [if_pos (by decide +kernel)]; kernel_rfl)|(rw [if_neg (by decide +kernel)]; exact ⟨rfl,rfl⟩))
  (fun os started H enc _=>jl os started H enc)
end Go.Proofs.YtdnmfaljidjijaaGreat
