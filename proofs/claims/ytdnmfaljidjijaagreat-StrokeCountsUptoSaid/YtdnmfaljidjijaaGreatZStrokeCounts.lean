/-
 StrokeCounts: so many pieces there are; points that are told twice change nothing.
-/
import Derived.Test.YtdnmfaljidjijaaGreatPk05
import Derived.Test.YtdnmfaljidjijaaGreatPk06
import Derived.Test.YtdnmfaljidjijaaGreatPk07
import Derived.Test.YtdnmfaljidjijaaGreatPk08
import Derived.Test.YtdnmfaljidjijaaGreatPk09
import Derived.Test.YtdnmfaljidjijaaGreatPk10
import Derived.Test.YtdnmfaljidjijaaGreatPk15
import Derived.Test.YtdnmfaljidjijaaGreatPk21
import Derived.Test.YtdnmfaljidjijaaGreatRows
import Derived.ProofKit
namespace Go.Proofs.YtdnmfaljidjijaaGreat
open Go Go.Proofs
open Go.ChangeShapes Go.WideShapes Go.ChangeAt Go.RowKit
set_option linter.unusedSimpArgs false
set_option linter.unusedVariables false
set_option maxRecDepth 100000 in
theorem mY (os:Os) (started:os.Started) (H:Type) (enc:TypeId×Value→H) (F:Stop.Interp) :
 ReturnsInHanded {} Tryz.checked os 10 .any ((Rows.OpenSpec.upto Rows.strokeCountsSpec).pre6 enc Tryz.prog Tryz.f10 Rows.strokeCountsUptoRow.domain false) (((Rows.OpenSpec.upto Rows.strokeCountsSpec).at F).post enc Tryz.prog Tryz.f10 false true false false):=by
 refine returnsInHanded_of_cond (C:=Tryz.checked) (s:=Rows.OpenSpec.upto Rows.strokeCountsSpec) (k:=Rows.uptoSmall) rfl Tryz.own started (by kernel_rfl) Tryz.func10
  (OpenSpec.witness (enc:=enc) (C:=Tryz.checked) (s:=Rows.OpenSpec.upto Rows.strokeCountsSpec) (k:=Rows.uptoSmall) rfl false ⟨#[],#[.agg #[.slice none 0 0,.bool false],.agg #[.bool false,.slice none 0 0,.slice none 0 0,.bool false,.slice none 0 0,.slice none 0 0,.int .i64 0,.int .i64 0,.bool false,.slice none 0 0,.slice none 0 0]],[]⟩ 8 (by kernel_rfl) (by kernel_rfl) (by kernel_rfl)
   (x:=([.agg [.nil,.lit (.bool false)],.agg [.agg [.agg [.lit (.bool false),.nil],.nil],.agg [.agg [.lit (.bool false),.nil],.nil],.lit (.int .i64 0),.lit (.int .i64 0),.agg [.agg [.lit (.bool false),.nil],.nil]]],[],[])) (by kernel_rfl) rfl (by kernel_rfl)) ?_
 intro W base args ds gs before hval0 hW0 _ hk _
 have hW:DataW.Whole enc Tryz.prog Tryz.f10.params.toList Rows.strokeCountsSpec.vars false W args.toList ds gs before:=hW0
 have hval:∀(j:Nat) t v,Tryz.f10.params[j]?=some t→args[j]?=some v→Value.okWide Tryz.prog W .any base t v:=hval0
 have hW':=hW
 obtain ⟨p,q,hA0,hV,rfl,hfz,hnd⟩:=hW
 have hA:DataW.TrodAll enc Tryz.prog W 0 (fun _=>true) true [55,89] args.toList ds p:=hA0
 obtain ⟨w0,w1,d0,d1,p0,p1,rfl,rfl,rfl,h0,h1⟩:=trodAll_two hA
 obtain ⟨rfl,rfl⟩:=trodVars_none hV
 obtain ⟨fuel0,k0⟩:=h0
 obtain ⟨l0,⟨v0,c0,hl0,hm0,rfl⟩,hr0,hs0⟩:=l6 fuel0 _ _ k0
 have hc0:=ft (t:=55) (by kernel_rfl) (hval 0 55 w0 rfl rfl)
 obtain ⟨fuel1,k1⟩:=h1
 obtain ⟨l1,⟨z1,hz1,rfl⟩,hr1,hs1⟩:=kC fuel1 _ _ k1
 have hc1:=ft (t:=89) (by kernel_rfl) (hval 1 89 w1 rfl rfl)
 have hk':Rows.uptoSmall H [d0,d1]=true:=by simpa only [List.append_nil] using hk
 have hb:Rows.uptoBulkAll [d0,d1]≤1048576:=of_decide_eq_true hk'
 have hi1:=mf (n:=1048576) ((jX fuel1 _ _ k1).mono (Nat.le_trans (jZ (by simp)) hb)) (hr1 ⟨W,fun _=>none,fun _=>False,fun _=>False⟩ rfl (fun _ h=>h)) hz1
 simp only [List.append_nil,List.append_assoc] at hW' ⊢
 have key:Calls Tryz.prog 10 #[w0,w1] W fun e W'=>∃v,e = .returned v∧Rows.strokeCountsSpec.post enc Tryz.prog Tryz.f10 false true false false W #[w0,w1] v W':=JL (s:=Rows.strokeCountsSpec) Tryz.func10 rfl (by kernel_rfl) rfl rfl rfl (fun _ _=>rfl) (by kernel_rfl) ⟨of_decide_eq_true (by kernel_rfl),of_decide_eq_true (by kernel_rfl)⟩ ((ph v0 c0 z1 hl0 hm0 hz1 ⟨hi1.1,hi1.2.1,hi1.2.2⟩)) (fun cx e1 e2=>yb (iQ hc0 hs0 (hr0 cx e1 e2)) (iQ hc1 hs1 (hr1 cx e1 e2))) ⟨fuel0,k0⟩ ⟨fuel1,k1⟩ hW'
 exact key
theorem qU:(Rows.strokeCountsUptoRow.inPlace == Tryz.pinned.checked.prog.inPlace 10)=true:=by kernel_rfl
theorem qY:(Rows.strokeCountsUptoRow.unfollowed == Tryz.pinned.checked.prog.unfollowed 10)=true:=by kernel_rfl
theorem qX:(Rows.strokeCountsUptoRow.recurses == Tryz.pinned.checked.prog.recurses 10)=true:=by kernel_rfl
theorem qW:(Rows.strokeCountsUptoRow.named == Tryz.pinned.checked.prog.varsNamed 10)=true:=by kernel_rfl
theorem qV:joinedFacts Tryz.pinned.checked.prog 10 Tryz.f10 (Rows.OpenSpec.upto Rows.strokeCountsSpec).bare Rows.strokeCountsUptoRow=true:=by
 unfold joinedFacts
 rw [qU,qY,qX,qW]
 kernel_rfl
theorem strokeCounts_holds:Rows.StrokeCountsUptoSaid :=
 OpenClaim.holds_of_cond 10 Tryz.f10 rfl rfl rfl rfl rfl rfl rfl ⟨rfl,rfl,rfl,rfl,rfl⟩ rfl rfl rfl rfl rfl (by kernel_rfl) Tryz.func10 qV
  (of_decide_eq_true (by kernel_rfl)) (by unfold Func.isWrapper; first|(rw [if_pos (by decide +kernel)]; kernel_rfl)|(rw [if_neg (by decide +kernel)]; exact ⟨rfl,rfl⟩))
  (fun os started H enc _ F=>mY os started H enc F)
end Go.Proofs.YtdnmfaljidjijaaGreat
