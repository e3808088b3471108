/-
 OutlineLines: the lines of any light path, mapped by any map, are the document's, or there are none as it says. For every input; no condition beside the statement's own.
-/
import Derived.Test.YtdnmfaljidjijaaGreatPk05
import Derived.Test.YtdnmfaljidjijaaGreatPk07
import Derived.Test.YtdnmfaljidjijaaGreatRows
import Derived.ProofKit
namespace Go.Proofs.YtdnmfaljidjijaaGreat
open Go Go.Proofs
open Go.ChangeShapes Go.WideShapes Go.ChangeAt Go.RowKit
set_option linter.unusedSimpArgs false
set_option linter.unusedVariables false
set_option maxRecDepth 100000 in
theorem jG (os:Os) (started:os.Started) (H:Type) (enc:TypeId×Value→H) :
 ReturnsInHanded {} Tryz.checked os 3 .any (Rows.outlineLinesSpec.pre6 enc Tryz.prog Tryz.f3 Rows.outlineLinesRow.domain false) (Rows.outlineLinesSpec.post enc Tryz.prog Tryz.f3 false true false false):=by
 refine returnsInHanded_of_change (C:=Tryz.checked) Tryz.own started (by kernel_rfl) Tryz.func3
  (ChangeSpec.witness6 (enc:=enc) (C:=Tryz.checked) false ⟨#[],#[.slice none 0 0,.agg #[.bool false,.slice none 0 0,.slice none 0 0,.bool false,.slice none 0 0,.slice none 0 0,.bool false,.slice none 0 0,.slice none 0 0,.bool false,.slice none 0 0,.slice none 0 0,.bool false,.slice none 0 0,.slice none 0 0,.bool false,.slice none 0 0,.slice none 0 0],.agg #[.bool false,.slice none 0 0,.slice none 0 0]],[]⟩ 8 (by kernel_rfl) (by kernel_rfl) (by kernel_rfl) (by kernel_rfl)) ?_
 intro W base args ds gs before hval0 hW hcnd _
 have hval:∀(j:Nat) t v,Tryz.f3.params[j]?=some t→args[j]?=some v→Value.okWide Tryz.prog W .any base t v:=hval0
 have hW':=hW
 obtain ⟨p,q,hA0,hV,rfl,hfz,hnd⟩:=hW
 have hA:DataW.TrodAll enc Tryz.prog W 0 (fun _=>true) true [22,29,27] args.toList ds p:=hA0
 obtain ⟨w0,w1,w2,d0,d1,d2,p0,p1,p2,rfl,rfl,rfl,h0,h1,h2⟩:=trodAll_three hA
 obtain ⟨rfl,rfl⟩:=trodVars_none hV
 obtain ⟨fuel0,k0⟩:=h0
 obtain ⟨l0,⟨v0,hl0,rfl⟩,hr0,hs0⟩:=ur fuel0 _ _ k0
 have hc0:=q8 (e:=82) (by kernel_rfl) (hval 0 22 w0 rfl rfl)
 obtain ⟨fuel1,k1⟩:=h1
 obtain ⟨l1,⟨z1,hz1,rfl⟩,hr1,hs1⟩:=EZ fuel1 _ _ k1
 have hc1:=xF (t:=29) (by kernel_rfl) (hval 1 29 w1 rfl rfl)
 obtain ⟨fuel2,k2⟩:=h2
 obtain ⟨l2,⟨z2,hz2,rfl⟩,hr2,hs2⟩:=yr fuel2 _ _ k2
 have hc2:=xF (t:=27) (by kernel_rfl) (hval 2 27 w2 rfl rfl)
 simp only [List.append_nil,List.append_assoc] at hW' ⊢
 exact Nw Tryz.func3 rfl (by kernel_rfl) rfl rfl rfl (fun _ _ _=>rfl) (by kernel_rfl) ⟨of_decide_eq_true (by kernel_rfl),of_decide_eq_true (by kernel_rfl),of_decide_eq_true (by kernel_rfl)⟩ (k_ v0 z1 z2 hl0 hz1 hz2) (fun cx e1 e2=>De (Dd hc0 (hr0 cx e1 e2)) (Dc hc1 hs1 (hr1 cx e1 e2)) (Dc hc2 hs2 (hr2 cx e1 e2))) ⟨fuel0,k0⟩ ⟨fuel1,k1⟩ ⟨fuel2,k2⟩ hW'
theorem nf:(Rows.outlineLinesRow.inPlace == Tryz.pinned.checked.prog.inPlace 3)=true:=by kernel_rfl
theorem nj:(Rows.outlineLinesRow.unfollowed == Tryz.pinned.checked.prog.unfollowed 3)=true:=by kernel_rfl
theorem ni:(Rows.outlineLinesRow.recurses == Tryz.pinned.checked.prog.recurses 3)=true:=by kernel_rfl
theorem nh:(Rows.outlineLinesRow.named == Tryz.pinned.checked.prog.varsNamed 3)=true:=by kernel_rfl
theorem ng:joinedFacts Tryz.pinned.checked.prog 3 Tryz.f3 Rows.outlineLinesSpec Rows.outlineLinesRow=true:=by
 unfold joinedFacts
 rw [nf,nj,ni,nh]
 kernel_rfl
theorem outlineLines_holds:Rows.OutlineLinesSaid :=
 OpenClaim.holds_of_wide 3 Tryz.f3 rfl rfl rfl rfl rfl rfl rfl ⟨rfl,rfl,rfl,rfl,rfl⟩ rfl rfl rfl rfl rfl (by kernel_rfl) Tryz.func3 ng
  (of_decide_eq_true (by kernel_rfl)) (by unfold Func.isWrapper; first|(rw [if_pos (by decide +kernel)]; kernel_rfl)|(rw [if_neg (by decide +kernel)]; exact ⟨rfl,rfl⟩))
  (fun os started H enc _=>jG os started H enc)
end Go.Proofs.YtdnmfaljidjijaaGreat
