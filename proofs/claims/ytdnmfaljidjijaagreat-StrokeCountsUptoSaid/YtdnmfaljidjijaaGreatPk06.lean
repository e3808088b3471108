import Derived.Test.YtdnmfaljidjijaaGreatPk05
import Derived.Test.YtdnmfaljidjijaaGreatProg
namespace Go.Proofs.YtdnmfaljidjijaaGreat
open Go Go.Proofs
@[go_sem] theorem Uj:az Tryz.prog 57=some ⟨1,24,(.slice 118),[(.sl 0 true [])]⟩:=by kernel_rfl
set_option linter.unusedSimpArgs false
set_option linter.unusedVariables false
set_option maxRecDepth 20000
def eL (l:List PQ):AV := .sl 6 false (l.map eA)
theorem oW (l:List PQ):ro (eL l):=by unfold eL; simp only [ro]; exact cY l
theorem f_ {l:List PQ} {i:Nat} (h:i<l.length):bU (l.map eA) (i:Int) = .agg (eC l[i]):=by
 simp [bU,List.getD_eq_getElem?_getD,h,aP]
set_option maxHeartbeats 4000000 in
theorem u_ (l:List PR) (hl:l.length<1099511627) (hs:∀p∈l,p.In 4294967296):ag Tryz.prog 47 [fK l] (eL (l.map PR.val)):=by
 refine ag.of_ca (oW _) (Cg Tryz.func47 rfl [.tmp 2] rfl ?_)
 obtain ⟨V,hV⟩:∃V,V=(l.map PR.val).map eA:=⟨_,rfl⟩
 have hVl:V.length=l.length:=by rw [hV]; simp
 have hVr:∀i,roL (V.take i):=fun i=>bV (by rw [hV]; exact cY _)
 have hgoal:eL (l.map PR.val) = .sl 6 false V:=by rw [hV]; rfl
 have hr:=iR l
 have hPl:(l.map PR.av).length=l.length:=by simp
 have hg0:∀i (h:i<l.length),bU (l.map PR.av) (i:Int) = .agg l[i].cs:=fun i h=>dM h
 rw [hgoal]
 unfold fK
 generalize l.map PR.av=U at *
 simp -implicitDefEqProofs [go_sem]
 refine ap 2 (α:={i:Nat // i≤l.length}) (fun i=>[(0,.sl 6 false U),(3,di 6 1 (V.take i.1)),(4,.int .i64 i.1)]) (fun i=>cR 6 1 (V.take i.1)) (fun i=>l.length-i.1) ⟨0,Nat.zero_le _⟩ [] (by simp) (fun _ _ _ _ h=>h) (by simp) (by simp -implicitDefEqProofs [go_sem,renL_ro (nm []) _ hr,cloL_ro (n:=2) _ hr]) (by simp -implicitDefEqProofs [go_sem]) fun ⟨i,hi⟩=>?_
 have hTl:(V.take i).length=i:=by rw [List.length_take]; omega
 have hb:V.take i≠[]→hp 2 (cR 6 1 (V.take i)) 1 = .live 6 (V.take i):=fun h=>by rw [aC h]; simp [hp,aH]
 by_cases h:i<l.length
 ·have hg:=hg0 i h
  have a1:(i:Int)<l.length:=by omega
  have es:=wS i (by omega)
  have ho:=sJ l[i] (hs _ (List.getElem_mem h)).mono
  have hsc:V.take (i+1)=V.take i++[.agg (eC l[i].val)]:=by
   rw [List.take_succ_eq_append_getElem (by omega)]
   subst hV; simp [aP]
  have hr1:=hVr (i+1)
  rw [hsc] at hr1
  have u6:l[i].cs.length=6:=rfl
  have u7:l[i].cs.take 6=l[i].cs:=rfl
  have u9:=l[i].ro_cs
  rw [PR.av_cs] at ho
  generalize l[i].val=p at *
  generalize l[i].cs=X at *
  simp only [aP] at ho
  simp -implicitDefEqProofs [go_sem,a1,h,hPl,hg,u6,u7]
  refine ah _ ho (by simp [go_sem,u9]) ?_
  simp -implicitDefEqProofs [go_sem]
  refine aI (.inl rfl) (by omega) (by omega) (by simp -implicitDefEqProofs [go_sem]) (by simp [hTl]<;>omega) (by simp -implicitDefEqProofs [go_sem]<;>exact hb) ?_
  simp -implicitDefEqProofs [go_sem,es]
  have hn1:V.take (i+1)≠[]:=by rw [hsc]; simp
  have r1:=(renL_ro (nm [(1,3)]) _ hr1).symm
  have r2:=cloL_ro (n:=2) _ hr1
  have hl1:(V.take (i+1)).length=(V.take i).length+1:=by rw [hsc]; simp
  refine ae ⟨i+1,h⟩ (by simp only; omega) [(1,3)] (by simp) (by simp only [aC hn1]; simp [nm]) (by simp) (by simp only [aV hn1,hl1]; simp -implicitDefEqProofs [go_sem,es,renL_ro (nm [(1,3)]) _ hr,cloL_ro (n:=2) _ hr]) (by simp only [aC hn1,hsc]; simp -implicitDefEqProofs [go_sem,←r1,r2])
 ·have hii:i=l.length:=by omega
  have a1:¬(i:Int)<l.length:=by omega
  have hTV:V.take i=V:=List.take_of_length_le (by omega)
  rw [hTV] at hb ⊢
  simp -implicitDefEqProofs [go_sem,a1,hPl]
  exact fS (by rw [hV]; exact cY _) hb
end Go.Proofs.YtdnmfaljidjijaaGreat
