/-
 OutlineLevels: at each level that is no point's as many edges of a light path go up as go down. For every input; no condition beside the statement's own.
-/
import Derived.Test.YtdnmfaljidjijaaGreatPk05
import Derived.Test.YtdnmfaljidjijaaGreatPk06
import Derived.Test.YtdnmfaljidjijaaGreatRows
import Derived.ProofKit
namespace Go.Proofs.YtdnmfaljidjijaaGreat
open Go Go.Proofs
open Go.ChangeShapes Go.WideShapes Go.ChangeAt Go.RowKit
set_option linter.unusedSimpArgs false
set_option linter.unusedVariables false
set_option maxRecDepth 100000 in
theorem io (os:Os) (started:os.Started) (H:Type) (enc:TypeId×Value→H) :
 ReturnsInHanded {} Tryz.checked os 5 .any (Rows.outlineLevelsSpec.pre6 enc Tryz.prog Tryz.f5 Rows.outlineLevelsRow.domain false) (Rows.outlineLevelsSpec.post enc Tryz.prog Tryz.f5 false true false false):=by
 refine returnsInHanded_of_change (C:=Tryz.checked) Tryz.own started (by kernel_rfl) Tryz.func5
  (ChangeSpec.witness6 (enc:=enc) (C:=Tryz.checked) false ⟨#[],#[.slice none 0 0,.int .u8 0],[]⟩ 8 (by kernel_rfl) (by kernel_rfl) (by kernel_rfl) (by kernel_rfl)) ?_
 intro W base args ds gs before hval0 hW hcnd _
 have hval:∀(j:Nat) t v,Tryz.f5.params[j]?=some t→args[j]?=some v→Value.okWide Tryz.prog W .any base t v:=hval0
 have hW':=hW
 obtain ⟨p,q,hA0,hV,rfl,hfz,hnd⟩:=hW
 have hA:DataW.TrodAll enc Tryz.prog W 0 (fun _=>true) true [22,5] args.toList ds p:=hA0
 obtain ⟨w0,w1,d0,d1,p0,p1,rfl,rfl,rfl,h0,h1⟩:=trodAll_two hA
 obtain ⟨rfl,rfl⟩:=trodVars_none hV
 obtain ⟨fuel0,k0⟩:=h0
 obtain ⟨l0,⟨v0,hl0,rfl⟩,hr0,hs0⟩:=rV fuel0 _ _ k0
 have hc0:=o5 (e:=82) (by kernel_rfl) (hval 0 22 w0 rfl rfl)
 obtain ⟨fuel1,k1⟩:=h1
 obtain ⟨l1,⟨n1,rfl,hw1⟩,hr1,hs1⟩:=jL (k := .u8) (by kernel_rfl) fuel1 _ _ k1
 have hc1:=Ch (k := .u8) (by kernel_rfl) (hval 1 5 w1 rfl rfl)
 simp only [List.append_nil,List.append_assoc] at hW' ⊢
 exact H3 Tryz.func5 rfl (by kernel_rfl) rfl rfl rfl (fun _ _=>rfl) (by kernel_rfl) ⟨of_decide_eq_true (by kernel_rfl),of_decide_eq_true (by kernel_rfl)⟩ (jm v0 n1 hl0 hw1) (fun cx e1 e2=>AO (ue hc0 (hr0 cx e1 e2)) (ue hc1 (hr1 cx e1 e2))) ⟨fuel0,k0⟩ ⟨fuel1,k1⟩ hW'
theorem kE:(Rows.outlineLevelsRow.inPlace == Tryz.pinned.checked.prog.inPlace 5)=true:=by kernel_rfl
theorem kI:(Rows.outlineLevelsRow.unfollowed == Tryz.pinned.checked.prog.unfollowed 5)=true:=by kernel_rfl
theorem kH:(Rows.outlineLevelsRow.recurses == Tryz.pinned.checked.prog.recurses 5)=true:=by kernel_rfl
theorem kG:(Rows.outlineLevelsRow.named == Tryz.pinned.checked.prog.varsNamed 5)=true:=by kernel_rfl
theorem kF:joinedFacts Tryz.pinned.checked.prog 5 Tryz.f5 Rows.outlineLevelsSpec Rows.outlineLevelsRow=true:=by
 unfold joinedFacts
 rw [kE,kI,kH,kG]
 kernel_rfl
theorem outlineLevels_holds:Rows.OutlineLevelsSaid :=
 OpenClaim.holds_of_wide 5 Tryz.f5 rfl rfl rfl rfl rfl rfl rfl ⟨rfl,rfl,rfl,rfl,rfl⟩ rfl rfl rfl rfl rfl (by kernel_rfl) Tryz.func5 kF
  (of_decide_eq_true (by kernel_rfl)) (by unfold Func.isWrapper; first|(rw [if_pos (by decide +kernel)]; kernel_rfl)|(rw [if_neg (by decide +kernel)]; exact ⟨rfl,rfl⟩))
  (fun os started H enc _=>io os started H enc)
end Go.Proofs.YtdnmfaljidjijaaGreat
