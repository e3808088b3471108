/-
 OutlineCloses: a light path's subpaths are as many as its moves and what goes on behind a close without one; closed just if they end so; each begins at its move's point. For every input; no condition beside the statement's own.
-/
import Derived.Test.YtdnmfaljidjijaaGreatPk05
import Derived.Test.YtdnmfaljidjijaaGreatPk06
import Derived.Test.YtdnmfaljidjijaaGreatRows
import Derived.ProofKit
namespace Go.Proofs.YtdnmfaljidjijaaGreat
open Go Go.Proofs
open Go.ChangeShapes Go.WideShapes Go.ChangeAt Go.RowKit
set_option linter.unusedSimpArgs false
set_option linter.unusedVariables false
set_option maxRecDepth 100000 in
theorem jg (os:Os) (started:os.Started) (H:Type) (enc:TypeId×Value→H) :
 ReturnsInHanded {} Tryz.checked os 6 .any (Rows.outlineClosesSpec.pre6 enc Tryz.prog Tryz.f6 Rows.outlineClosesRow.domain false) (Rows.outlineClosesSpec.post enc Tryz.prog Tryz.f6 false true false false):=by
 refine returnsInHanded_of_change (C:=Tryz.checked) Tryz.own started (by kernel_rfl) Tryz.func6
  (ChangeSpec.witness6 (enc:=enc) (C:=Tryz.checked) false ⟨#[],#[.slice none 0 0],[]⟩ 8 (by kernel_rfl) (by kernel_rfl) (by kernel_rfl) (by kernel_rfl)) ?_
 intro W base args ds gs before hval0 hW hcnd _
 have hval:∀(j:Nat) t v,Tryz.f6.params[j]?=some t→args[j]?=some v→Value.okWide Tryz.prog W .any base t v:=hval0
 have hW':=hW
 obtain ⟨p,q,hA0,hV,rfl,hfz,hnd⟩:=hW
 have hA:DataW.TrodAll enc Tryz.prog W 0 (fun _=>true) true [22] args.toList ds p:=hA0
 obtain ⟨w0,d0,rfl,rfl,h0⟩:=trodAll_one hA
 obtain ⟨rfl,rfl⟩:=trodVars_none hV
 obtain ⟨fuel0,k0⟩:=h0
 obtain ⟨l0,⟨v0,hl0,rfl⟩,hr0,hs0⟩:=ur fuel0 _ _ k0
 have hc0:=q8 (e:=82) (by kernel_rfl) (hval 0 22 w0 rfl rfl)
 simp only [List.append_nil,List.append_assoc] at hW' ⊢
 exact Nv Tryz.func6 rfl (by kernel_rfl) rfl rfl rfl (fun _=>rfl) (by kernel_rfl) (of_decide_eq_true (by kernel_rfl)) (kb v0 hl0) (fun cx e1 e2=>Dd hc0 (hr0 cx e1 e2)) ⟨fuel0,k0⟩ hW'
theorem mf:(Rows.outlineClosesRow.inPlace == Tryz.pinned.checked.prog.inPlace 6)=true:=by kernel_rfl
theorem mj:(Rows.outlineClosesRow.unfollowed == Tryz.pinned.checked.prog.unfollowed 6)=true:=by kernel_rfl
theorem mi:(Rows.outlineClosesRow.recurses == Tryz.pinned.checked.prog.recurses 6)=true:=by kernel_rfl
theorem mh:(Rows.outlineClosesRow.named == Tryz.pinned.checked.prog.varsNamed 6)=true:=by kernel_rfl
theorem mg:joinedFacts Tryz.pinned.checked.prog 6 Tryz.f6 Rows.outlineClosesSpec Rows.outlineClosesRow=true:=by
 unfold joinedFacts
 rw [mf,mj,mi,mh]
 kernel_rfl
theorem outlineCloses_holds:Rows.OutlineClosesSaid :=
 OpenClaim.holds_of_wide 6 Tryz.f6 rfl rfl rfl rfl rfl rfl rfl ⟨rfl,rfl,rfl,rfl,rfl⟩ rfl rfl rfl rfl rfl (by kernel_rfl) Tryz.func6 mg
  (of_decide_eq_true (by kernel_rfl)) (by unfold Func.isWrapper; first|(rw [if_pos (by decide +kernel)]; kernel_rfl)|(rw [if_neg (by decide +kernel)]; exact ⟨rfl,rfl⟩))
  (fun os started H enc _=>jg os started H enc)
end Go.Proofs.YtdnmfaljidjijaaGreat
