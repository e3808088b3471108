/-
 StrokeMaps: pieces mapped by any map, and their sides that are not level, are the document's. For every input; no condition beside the statement's own.
-/
import Derived.Test.YtdnmfaljidjijaaGreatPk05
import Derived.Test.YtdnmfaljidjijaaGreatPk06
import Derived.Test.YtdnmfaljidjijaaGreatPk08
import Derived.Test.YtdnmfaljidjijaaGreatPk10
import Derived.Test.YtdnmfaljidjijaaGreatPk11
import Derived.Test.YtdnmfaljidjijaaGreatPk12
import Derived.Test.YtdnmfaljidjijaaGreatPk13
import Derived.Test.YtdnmfaljidjijaaGreatPk16
import Derived.Test.YtdnmfaljidjijaaGreatRows
import Derived.ProofKit
namespace Go.Proofs.YtdnmfaljidjijaaGreat
open Go Go.Proofs
open Go.ChangeShapes Go.WideShapes Go.ChangeAt Go.RowKit
set_option linter.unusedSimpArgs false
set_option linter.unusedVariables false
set_option maxRecDepth 100000 in
theorem o_ (os:Os) (started:os.Started) (H:Type) (enc:TypeId×Value→H) :
 ReturnsInHanded {} Tryz.checked os 9 .any (Rows.strokeMapsSpec.pre6 enc Tryz.prog Tryz.f9 Rows.strokeMapsRow.domain false) (Rows.strokeMapsSpec.post enc Tryz.prog Tryz.f9 false true false false):=by
 refine returnsInHanded_of_change (C:=Tryz.checked) Tryz.own started (by kernel_rfl) Tryz.func9
  (ChangeSpec.witness6 (enc:=enc) (C:=Tryz.checked) false ⟨#[],#[.slice none 0 0,.agg #[.bool false,.slice none 0 0,.slice none 0 0,.bool false,.slice none 0 0,.slice none 0 0,.bool false,.slice none 0 0,.slice none 0 0,.bool false,.slice none 0 0,.slice none 0 0,.bool false,.slice none 0 0,.slice none 0 0,.bool false,.slice none 0 0,.slice none 0 0]],[]⟩ 8 (by kernel_rfl) (by kernel_rfl) (by kernel_rfl) (by kernel_rfl)) ?_
 intro W base args ds gs before hval0 hW hcnd _
 have hval:∀(j:Nat) t v,Tryz.f9.params[j]?=some t→args[j]?=some v→Value.okWide Tryz.prog W .any base t v:=hval0
 have hW':=hW
 obtain ⟨p,q,hA0,hV,rfl,hfz,hnd⟩:=hW
 have hA:DataW.TrodAll enc Tryz.prog W 0 (fun _=>true) true [92,29] args.toList ds p:=hA0
 obtain ⟨w0,w1,d0,d1,p0,p1,rfl,rfl,rfl,h0,h1⟩:=trodAll_two hA
 obtain ⟨rfl,rfl⟩:=trodVars_none hV
 obtain ⟨fuel0,k0⟩:=h0
 obtain ⟨l0,⟨v0,hl0,hm0,rfl⟩,hr0,hs0⟩:=Ib fuel0 _ _ k0
 have hc0:=F5 (e:=53) (by kernel_rfl) (hval 0 92 w0 rfl rfl)
 obtain ⟨fuel1,k1⟩:=h1
 obtain ⟨l1,⟨z1,hz1,rfl⟩,hr1,hs1⟩:=DZ fuel1 _ _ k1
 have hc1:=ft (t:=29) (by kernel_rfl) (hval 1 29 w1 rfl rfl)
 simp only [List.append_nil,List.append_assoc] at hW' ⊢
 exact JL Tryz.func9 rfl (by kernel_rfl) rfl rfl rfl (fun _ _=>rfl) (by kernel_rfl) ⟨of_decide_eq_true (by kernel_rfl),of_decide_eq_true (by kernel_rfl)⟩ (rh v0 z1 hl0 hm0 hz1) (fun cx e1 e2=>yb (It hc0 (hr0 cx e1 e2)) (iQ hc1 hs1 (hr1 cx e1 e2))) ⟨fuel0,k0⟩ ⟨fuel1,k1⟩ hW'
theorem uz:(Rows.strokeMapsRow.inPlace == Tryz.pinned.checked.prog.inPlace 9)=true:=by kernel_rfl
theorem uE:(Rows.strokeMapsRow.unfollowed == Tryz.pinned.checked.prog.unfollowed 9)=true:=by kernel_rfl
theorem uD:(Rows.strokeMapsRow.recurses == Tryz.pinned.checked.prog.recurses 9)=true:=by kernel_rfl
theorem uC:(Rows.strokeMapsRow.named == Tryz.pinned.checked.prog.varsNamed 9)=true:=by kernel_rfl
theorem uB:joinedFacts Tryz.pinned.checked.prog 9 Tryz.f9 Rows.strokeMapsSpec Rows.strokeMapsRow=true:=by
 unfold joinedFacts
 rw [uz,uE,uD,uC]
 kernel_rfl
theorem strokeMaps_holds:Rows.StrokeMapsSaid :=
 OpenClaim.holds_of_wide 9 Tryz.f9 rfl rfl rfl rfl rfl rfl rfl ⟨rfl,rfl,rfl,rfl,rfl⟩ rfl rfl rfl rfl rfl (by kernel_rfl) Tryz.func9 uB
  (of_decide_eq_true (by kernel_rfl)) (by unfold Func.isWrapper; first|(rw [if_pos (by decide +kernel)]; kernel_rfl)|(rw [if_neg (by decide +kernel)]; exact ⟨rfl,rfl⟩))
  (fun os started H enc _=>o_ os started H enc)
end Go.Proofs.YtdnmfaljidjijaaGreat
