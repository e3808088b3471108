import Derived.Test.YtdnmfaljidjijaaGreatPk05
import Derived.Test.YtdnmfaljidjijaaGreatPk06
import Derived.Test.YtdnmfaljidjijaaGreatPk08
import Derived.Test.YtdnmfaljidjijaaGreatPk10
import Derived.Test.YtdnmfaljidjijaaGreatProg
namespace Go.Proofs.YtdnmfaljidjijaaGreat
set_option maxHeartbeats 4000000
open Go Go.Proofs
@[go_sem] theorem Uq:az Tryz.prog 95=some ⟨1,24,(.slice 57),[(.sl 0 true [])]⟩:=by kernel_rfl
set_option linter.unusedSimpArgs false
set_option linter.unusedVariables false
set_option maxRecDepth 20000
theorem BQ (l:List PQ) (hl:l.length<1099511627) (hs:∀p∈l,p.sz≤4294967296):ag Tryz.prog 78 [eL l] (pL l):=by
 refine ag.of_ca (iV _) (Cg Tryz.func78 rfl [.tmp 2] rfl ?_)
 obtain ⟨V,hV⟩:∃V,V=l.map pA:=⟨_,rfl⟩
 have hVl:V.length=l.length:=by rw [hV]; simp
 have hVr:∀i,roL (V.take i):=fun i=>bV (by rw [hV]; exact bK _)
 have hgoal:pL l = .sl 6 false V:=by rw [hV]; rfl
 rw [hgoal]
 unfold eL
 simp -implicitDefEqProofs [go_sem]
 refine ap 2 (α:={i:Nat // i≤l.length}) (fun i=>[(0,.sl 6 false (l.map eA)),(3,di 6 1 (V.take i.1)),(4,.int .i64 i.1)]) (fun i=>cR 6 1 (V.take i.1)) (fun i=>l.length-i.1) ⟨0,Nat.zero_le _⟩ [] (by simp) (fun _ _ _ _ h=>h) (by simp) (by simp -implicitDefEqProofs [go_sem]) (by simp -implicitDefEqProofs [go_sem]) fun ⟨i,hi⟩=>?_
 have hTl:(V.take i).length=i:=by rw [List.length_take]; omega
 have hb:V.take i≠[]→hp 2 (cR 6 1 (V.take i)) 1 = .live 6 (V.take i):=fun h=>by rw [aC h]; simp [hp,aH]
 simp -implicitDefEqProofs [go_sem]
 refine ⟨fun h=>?_,fun h=>?_⟩
 ·have hg:=f_ h
  have es:=wS i (by omega)
  have ho:=eO l[i] (by have:=hs _ (List.getElem_mem h); omega)
  have hsc:V.take (i+1)=V.take i++[.agg (pC l[i])]:=by
   rw [List.take_succ_eq_append_getElem (by omega)]
   subst hV; simp [aQ]
  have hr1:=hVr (i+1)
  rw [hsc] at hr1
  generalize l[i]=p at *
  simp only [aP,aQ] at ho
  simp -implicitDefEqProofs [go_sem,hg]
  refine ⟨h,ac ho ?_⟩
  simp -implicitDefEqProofs [go_sem]
  refine aI (.inl rfl) (by omega) (by omega) (by simp -implicitDefEqProofs [go_sem]) (by simp [hTl]<;>omega) (by simp -implicitDefEqProofs [go_sem]<;>exact hb) ?_
  simp -implicitDefEqProofs [go_sem,es]
  have hn1:V.take (i+1)≠[]:=by rw [hsc]; simp
  have r1:=(renL_ro (nm [(1,3)]) _ hr1).symm
  have r2:=cloL_ro (n:=2) _ hr1
  have hl1:(V.take (i+1)).length=(V.take i).length+1:=by rw [hsc]; simp
  refine ae ⟨i+1,h⟩ (by simp only; omega) [(1,3)] (by simp) (by simp only [aC hn1]; simp [nm]) (by simp) (by simp only [aV hn1,hl1]; simp -implicitDefEqProofs [go_sem,es]) (by simp only [aC hn1,hsc]; simp -implicitDefEqProofs [go_sem,←r1,r2])
 ·have hii:i=l.length:=by omega
  have hTV:V.take i=V:=List.take_of_length_le (by omega)
  rw [hTV] at hb ⊢
  exact fS (by rw [hV]; exact bK _) hb
@[go_sem] theorem RG (a b c d e:AV):gN [a,b,c,d,e]=aH (aH (aH (aH (aH (fun _ => .any) 0 a) 1 b) 2 c) 3 d) 4 e:=by
 funext k; unfold gN aH
 rcases k with _|_|_|_|_|k<;>simp
def yp (L:List (List PQ)):AV := .sl 1 false (L.map eL)
theorem jL (L:List (List PQ)):roL (L.map eL):=dq oW
def AA (L:List (List PQ)):AV := .sl 1 false (L.map pL)
theorem Ec (L:List (List PQ)):roL (L.map pL):=dq iV
theorem oC (L:List (List PQ)) (hL:L.length≤1048576) (hl:∀l∈L,l.length<1099511627) (hs:∀l∈L,∀p∈l,p.sz≤4294967296):ag Tryz.prog 44 [yp L] (AA L):=by
 refine ag.of_ca (by unfold AA; simp only [ro]; exact Ec L) (Cg Tryz.func44 rfl [.tmp 2] rfl ?_)
 obtain ⟨V,hV⟩:∃V,V=L.map pL:=⟨_,rfl⟩
 have hVl:V.length=L.length:=by rw [hV]; simp
 have hVr0:roL V:=by rw [hV]; exact Ec L
 have hVr:∀i,roL (V.take i):=fun i=>bV hVr0
 have hVg:∀i (h:i<L.length),V[i]'(by omega) = .sl 6 false (L[i].map pA):=fun i h=>by subst hV; rw [List.getElem_map]; rfl
 have hgoal:AA L = .sl 1 false V:=by rw [hV]; rfl
 have hr:=jL L
 have hPl:(L.map eL).length=L.length:=by simp
 have hg0:∀i (h:i<L.length),bU (L.map eL) (i:Int) = .sl 6 false (L[i].map eA):=fun i h=>dM h
 rw [hgoal]
 unfold yp
 generalize L.map eL=U at *
 simp -implicitDefEqProofs [go_sem]
 refine ap 2 (α:={i:Nat // i≤L.length}) (fun i=>[(0,.sl 1 false U),(3,di 1 1 (V.take i.1)),(4,.int .i64 i.1)]) (fun i=>cR 1 1 (V.take i.1)) (fun i=>L.length-i.1) ⟨0,Nat.zero_le _⟩ [] (by simp) (fun _ _ _ _ h=>h) (by simp) (by simp -implicitDefEqProofs [go_sem,renL_ro (nm []) _ hr,cloL_ro (n:=2) _ hr]) (by simp -implicitDefEqProofs [go_sem]) fun ⟨i,hi⟩=>?_
 have hTl:(V.take i).length=i:=by rw [List.length_take]; omega
 have hb:V.take i≠[]→hp 2 (cR 1 1 (V.take i)) 1 = .live 1 (V.take i):=fun h=>by rw [aC h]; simp [hp,aH]
 by_cases h:i<L.length
 ·have hg:=hg0 i h
  have a1:(i:Int)<L.length:=by omega
  have es:=wS i (by omega)
  have ho:=BQ L[i] (hl _ (List.getElem_mem h)) (hs _ (List.getElem_mem h))
  have hsc:V.take (i+1)=V.take i++[.sl 6 false (L[i].map pA)]:=by
   rw [List.take_succ_eq_append_getElem (by omega),hVg i h]
  have hr1:=hVr (i+1)
  rw [hsc] at hr1
  have u9:=cY L[i]
  have v9:=bK L[i]
  unfold eL pL at ho
  generalize L[i].map eA=XE at *
  generalize L[i].map pA=XP at *
  simp -implicitDefEqProofs [go_sem,a1,h,hPl,hg]
  refine ah _ ho (by simp [go_sem,u9]) ?_
  simp -implicitDefEqProofs [go_sem]
  refine aI (.inl rfl) (by omega) (by omega) (by simp -implicitDefEqProofs [go_sem,fitsL_ro _ _ v9]) (by simp [hTl]<;>omega) (by simp -implicitDefEqProofs [go_sem]<;>exact hb) ?_
  simp -implicitDefEqProofs [go_sem,es]
  have hn1:V.take (i+1)≠[]:=by rw [hsc]; simp
  have r1:=(renL_ro (nm [(1,3)]) _ hr1).symm
  have r2:=cloL_ro (n:=2) _ hr1
  have hl1:(V.take (i+1)).length=(V.take i).length+1:=by rw [hsc]; simp
  refine ae ⟨i+1,h⟩ (by simp only; omega) [(1,3)] (by simp) (by simp only [aC hn1]; simp [nm]) (by simp) (by simp only [aV hn1,hl1]; simp -implicitDefEqProofs [go_sem,es,renL_ro (nm [(1,3)]) _ hr,cloL_ro (n:=2) _ hr]) (by simp only [aC hn1,hsc]; simp -implicitDefEqProofs [go_sem,←r1,r2])
 ·have hii:i=L.length:=by omega
  have a1:¬(i:Int)<L.length:=by omega
  have hTV:V.take i=V:=List.take_of_length_le (by omega)
  rw [hTV] at hb ⊢
  simp -implicitDefEqProofs [go_sem,a1,hPl]
  exact fS hVr0 hb
end Go.Proofs.YtdnmfaljidjijaaGreat
