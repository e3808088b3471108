/-
 OutlineEdges: the sides of any lines that are not level are the document's. For every input; no condition beside the statement's own.
-/
import Derived.Test.YtdnmfaljidjijaaGreatPk05
import Derived.Test.YtdnmfaljidjijaaGreatRows
import Derived.ProofKit
namespace Go.Proofs.YtdnmfaljidjijaaGreat
open Go Go.Proofs
open Go.ChangeShapes Go.WideShapes Go.ChangeAt Go.RowKit
set_option linter.unusedSimpArgs false
set_option linter.unusedVariables false
set_option maxRecDepth 100000 in
theorem ic (os:Os) (started:os.Started) (H:Type) (enc:TypeId×Value→H) :
 ReturnsInHanded {} Tryz.checked os 4 .any (Rows.outlineEdgesSpec.pre6 enc Tryz.prog Tryz.f4 Rows.outlineEdgesRow.domain false) (Rows.outlineEdgesSpec.post enc Tryz.prog Tryz.f4 false true false false):=by
 refine returnsInHanded_of_change (C:=Tryz.checked) Tryz.own started (by kernel_rfl) Tryz.func4
  (ChangeSpec.witness6 (enc:=enc) (C:=Tryz.checked) false ⟨#[],#[.slice none 0 0],[]⟩ 8 (by kernel_rfl) (by kernel_rfl) (by kernel_rfl) (by kernel_rfl)) ?_
 intro W base args ds gs before hval0 hW hcnd _
 have hval:∀(j:Nat) t v,Tryz.f4.params[j]?=some t→args[j]?=some v→Value.okWide Tryz.prog W .any base t v:=hval0
 have hW':=hW
 obtain ⟨p,q,hA0,hV,rfl,hfz,hnd⟩:=hW
 have hA:DataW.TrodAll enc Tryz.prog W 0 (fun _=>true) true [32] args.toList ds p:=hA0
 obtain ⟨w0,d0,rfl,rfl,h0⟩:=trodAll_one hA
 obtain ⟨rfl,rfl⟩:=trodVars_none hV
 obtain ⟨fuel0,k0⟩:=h0
 obtain ⟨l0,⟨v0,hl0,hm0,rfl⟩,hr0,hs0⟩:=vJ fuel0 _ _ k0
 have hc0:=vV (e:=55) (by kernel_rfl) (hval 0 32 w0 rfl rfl)
 simp only [List.append_nil,List.append_assoc] at hW' ⊢
 exact I5 Tryz.func4 rfl (by kernel_rfl) rfl rfl rfl (fun _=>rfl) (by kernel_rfl) (of_decide_eq_true (by kernel_rfl)) (jb v0 hl0 hm0) (fun cx e1 e2=>C7 hc0 (hr0 cx e1 e2)) ⟨fuel0,k0⟩ hW'
theorem kb:(Rows.outlineEdgesRow.inPlace == Tryz.pinned.checked.prog.inPlace 4)=true:=by kernel_rfl
theorem ko:(Rows.outlineEdgesRow.unfollowed == Tryz.pinned.checked.prog.unfollowed 4)=true:=by kernel_rfl
theorem kj:(Rows.outlineEdgesRow.recurses == Tryz.pinned.checked.prog.recurses 4)=true:=by kernel_rfl
theorem kg:(Rows.outlineEdgesRow.named == Tryz.pinned.checked.prog.varsNamed 4)=true:=by kernel_rfl
theorem kf:joinedFacts Tryz.pinned.checked.prog 4 Tryz.f4 Rows.outlineEdgesSpec Rows.outlineEdgesRow=true:=by
 unfold joinedFacts
 rw [kb,ko,kj,kg]
 kernel_rfl
theorem outlineEdges_holds:Rows.OutlineEdgesSaid :=
 OpenClaim.holds_of_wide 4 Tryz.f4 rfl rfl rfl rfl rfl rfl rfl ⟨rfl,rfl,rfl,rfl,rfl⟩ rfl rfl rfl rfl rfl (by kernel_rfl) Tryz.func4 kf
  (of_decide_eq_true (by kernel_rfl)) (by unfold Func.isWrapper; first|(rw [if_pos (by decide +kernel)]; kernel_rfl)|(rw [if_neg (by decide +kernel)]; exact ⟨rfl,rfl⟩))
  (fun os started H enc _=>ic os started H enc)
end Go.Proofs.YtdnmfaljidjijaaGreat
