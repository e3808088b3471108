import Derived.Test.YtdnmfaljidjijaaGreatPk05
import Derived.Test.YtdnmfaljidjijaaGreatPk06
import Derived.Test.YtdnmfaljidjijaaGreatPk07
import Derived.Test.YtdnmfaljidjijaaGreatProg
namespace Go.Proofs.YtdnmfaljidjijaaGreat
open Go Go.Proofs
@[go_sem] theorem Uk:az Tryz.prog 59=some ⟨2,32,(.struct [(0,57),(1,4)]),[(.sl 0 true []),(.bool false)]⟩:=by kernel_rfl
set_option linter.unusedSimpArgs false
set_option linter.unusedVariables false
set_option maxRecDepth 20000
theorem nH (p q:PQ) (hp:p.sz≤4294967296) (hq:q.sz≤4294967296):ag Tryz.prog 123 [eA p,eA q] (.bool (decide (p=q))):=by
 obtain ⟨p1,p2⟩:=eg p hp
 obtain ⟨q1,q2⟩:=eg q hq
 have h1:=bC p.x q.x (by omega) (by omega)
 have h2:=bC p.y q.y (by omega) (by omega)
 have hz:∀a b:Rat,bJ a b=0↔a=b:=fun a b=>by
  have a1 := @iX a b
  have a2 := @iu a b
  constructor
  ·intro h
   have:=a1.1 (by omega); have:=a2.1 (by omega)
   grind
  ·intro h
   have:=a1.2 (by grind); have:=a2.2 (by grind)
   omega
 have z1:=hz p.x q.x
 have z2:=hz p.y q.y
 have he:decide (p=q)=(decide (bJ p.x q.x=0) && decide (bJ p.y q.y=0)):=by
  rw [←Bool.decide_and,decide_eq_decide,z1,z2]
  exact PQ.eq_iff ..
 rw [he]
 generalize bJ p.x q.x=c1 at *
 generalize bJ p.y q.y=c2 at *
 refine Pg Tryz.func123 rfl [.tmp 4] rfl (by simp -implicitDefEqProofs [go_sem]) ?_
 simp only [aP,bc] at *
 simp -implicitDefEqProofs [go_sem]
 refine ac h1 ?_
 by_cases a:c1=0
 ·simp -implicitDefEqProofs [go_sem,a]
  refine ac h2 ?_
  simp -implicitDefEqProofs [go_sem]
 ·simp -implicitDefEqProofs [go_sem,a]
def yT (l:List PQ) (closed:Bool):AV := .agg [eL l,.bool closed]
theorem jt (l:List PQ) (closed:Bool):ro (yT l closed):=by unfold yT; simp only [ro,roL]; exact ⟨oW l,trivial,trivial⟩
theorem kR (l:List PR) (closed:Bool) (hl:l.length<1099511627) (hs:∀p∈l,p.In 4294967296):ag Tryz.prog 24 [.agg [fK l,.bool closed]] (yT (l.map PR.val) closed):=by
 have k:=u_ l hl hs
 have rpr:=jS l
 refine Pg Tryz.func24 rfl [.cell 2 59] rfl (jt _ _) ?_
 unfold yT eL at *
 generalize fK l=PL at *
 generalize l.map PR.val=L at *
 simp -implicitDefEqProofs [go_sem,rpr]
 refine ao _ k (by simp [go_sem,rpr]) ?_
 simp -implicitDefEqProofs [go_sem,aL]
set_option maxHeartbeats 16000000 in
theorem jF (L:List PQ) (closed:Bool) (hl:L.length≤1048576) (hv:∀p∈L,p.sz≤4294967296):ag Tryz.prog 54 [yT L closed] (yT (bp L closed) closed):=by
 refine ag.of_ca (jt _ _) (Cz Tryz.func54 rfl [.cell 2 59] rfl ?_)
 have hr:=cY L
 have hPl:(L.map eA).length=L.length:=by simp
 have hg0:∀i (h:i<L.length),bU (L.map eA) (i:Int) = .agg (eC L[i]):=fun i h=>f_ h
 unfold yT eL
 have hR:∀m:List PQ,roL (m.map eA):=cY
 generalize hU:L.map eA=U at *
 simp -implicitDefEqProofs [go_sem]
 have c0:bd []=[]:=rfl
 refine ap 3 (α:={i:Nat // i≤L.length}) (fun i=>[(1,.ptr 0 0 0),(2,.ptr 1 0 0),(3,di 6 2 ((bd (L.take i.1)).map eA)),(4,.int .i64 i.1)]) (fun i=>[(0,.live 2 [.agg [.sl 6 false U,.bool closed]]),(1,.live 2 [.agg [.sl 0 true [],.bool false]])]++cR 6 2 ((bd (L.take i.1)).map eA)) (fun i=>L.length-i.1) ⟨0,Nat.zero_le _⟩ [] (by simp) (fun _ _ _ _ h=>h) (by simp) (by simp -implicitDefEqProofs [go_sem,c0,di]) (by simp -implicitDefEqProofs [go_sem,c0,cR,renL_ro (nm []) _ hr,cloL_ro (n:=3) _ hr]) fun ⟨i,hi⟩=>?_
 simp only
 have hCl:=j3 (L.take i)
 rw [List.length_take] at hCl
 have hCm:∀p∈bd (L.take i),p.sz≤4294967296:=fun p hp=>hv p (List.mem_of_mem_take (oq _ p hp))
 have hWr:=hR (bd (L.take i))
 have hWl:((bd (L.take i)).map eA).length=(bd (L.take i)).length:=by simp
 have hWg:∀j (h:j<(bd (L.take i)).length) (h2:j<((bd (L.take i)).map eA).length),((bd (L.take i)).map eA)[j] = .agg (eC (bd (L.take i))[j]):=fun j h _=>by rw [List.getElem_map]; rfl
 by_cases h:i<L.length
 ·have a1:(i:Int)<L.length:=by omega
  have hg:=hg0 i h
  have es:=wS i (by omega)
  have hst:=uU (L.take i) L[i]
  rw [←List.take_succ_eq_append_getElem h] at hst
  have zx:=hv _ (List.getElem_mem h)
  generalize hC:bd (L.take i)=C at *
  generalize L[i]=x at *
  generalize hW:C.map eA=W at *
  by_cases hn:C=[]
  ·have hWn:W=[]:=by rw [←hW,hn]; rfl
   have hst2:bd (L.take (i+1))=[x]:=by rw [hst,hn]; rfl
   subst hWn
   have eb:cR 6 2 []=[]:=rfl
   simp only [og,eb,List.append_nil]
   simp -implicitDefEqProofs [go_sem,a1,h,hPl]
   refine aU (by kernel_rfl) ?_
   simp -implicitDefEqProofs [go_sem,h,a1,hPl,hg]
   have hn1:(bd (L.take (i+1))).map eA≠[]:=by rw [hst2]; simp
   have hl1:((bd (L.take (i+1))).map eA).length=1:=by rw [hst2]; rfl
   refine ae ⟨i+1,h⟩ (by simp only; omega) [(2,22)] (by simp) (by simp only [aC hn1]; simp [nm]) (by simp) (by simp only [aV hn1,hl1]; simp -implicitDefEqProofs [go_sem,es]) (by simp only [aC hn1]; rw [hst2]; simp -implicitDefEqProofs [go_sem,aP,renL_ro (nm [(2,22)]) _ hr,cloL_ro (n:=3) _ hr])
  ·have hn0:0<C.length:=by have:=mt List.length_eq_zero_iff.1 hn; omega
   have hWn:W≠[]:=by rw [←hW]; simpa using hn
   obtain ⟨k,hk⟩:∃k,C.length=k+1:=⟨C.length-1,by omega⟩
   have hlast:C.getLast?=some (C[k]'(by omega)):=by rw [List.getLast?_eq_getElem?]; simp only [hk,Nat.add_sub_cancel]; exact List.getElem?_eq_getElem _
   have b1:k<W.length:=by omega
   have gk:=hWg k (by omega) b1
   have zk:=hCm _ (List.getElem_mem (show k<C.length by omega))
   rw [hlast] at hst
   generalize C[k]'(by omega)=c at *
   have ks:=nH c x (by omega) (by omega)
   have wk:IntKind.i64.wrap (k:Int)=k:=by rw [bS (by omega)]
   have ck:(k:Int)<(k:Int)+1:=by omega
   have hk0:¬(k:Int)+1=0:=by omega
   simp only [aV hWn,aC hWn,aP] at *
   have hWk:W.length=k+1:=by omega
   simp -implicitDefEqProofs [go_sem,a1,h,hPl]
   refine aU (by kernel_rfl) ?_
   simp -implicitDefEqProofs [go_sem,h,a1,hPl,hg,hWk,wk,ck,gk,hk0,b1]
   refine ao _ ks (by simp [go_sem]) ?_
   by_cases e:c=x
   ·rw [if_pos (by rw [e]),List.append_nil] at hst
    simp -implicitDefEqProofs [go_sem,e,es]
    exact ae ⟨i+1,h⟩ (by simp only; omega) [] (by simp) (fun _ _ _ _ h=>h) (by simp) (by simp only [hst,hW,aV hWn,hWk]; simp -implicitDefEqProofs [go_sem]) (by simp only [hst,hW,aC hWn]; simp -implicitDefEqProofs [go_sem,renL_ro (nm []) _ hr,cloL_ro (n:=3) _ hr,renL_ro (nm []) _ hWr,cloL_ro (n:=3) _ hWr])
   ·rw [if_neg (fun he=>e (Option.some.inj he))] at hst
    have hn1:(bd (L.take (i+1))).map eA≠[]:=by rw [hst]; simp
    have hW2:(bd (L.take (i+1))).map eA=W++[.agg (eC x)]:=by rw [hst,List.map_append,hW]; rfl
    have hl1:((bd (L.take (i+1))).map eA).length=k+2:=by rw [hW2,List.length_append,hWk]; rfl
    have hr2:=hR (bd (L.take (i+1)))
    rw [hW2] at hr2
    simp -implicitDefEqProofs [go_sem,e,h,a1,hPl,hg]
    have hWt:W.take (k+1)=W:=List.take_of_length_le (by omega)
    rw [hWt]
    refine ⟨by omega,by omega,?_⟩
    exact ae ⟨i+1,h⟩ (by simp only; omega) [(2,22)] (by simp) (by simp only [aC hn1]; simp [nm]) (by simp) (by simp only [aV hn1,hl1]; simp -implicitDefEqProofs [go_sem,es]) (by simp only [aC hn1,hW2]; simp -implicitDefEqProofs [go_sem,renL_ro (nm [(2,22)]) _ hr,cloL_ro (n:=3) _ hr,renL_ro (nm [(2,22)]) _ hr2,cloL_ro (n:=3) _ hr2])
 ·have hii:i=L.length:=by omega
  have a1:¬(i:Int)<L.length:=by omega
  have hTL:L.take i=L:=List.take_of_length_le (by omega)
  clear hWg hCl
  simp only [hTL] at hCm hWr hWl ⊢
  have hCl:=j3 L
  have hWg:∀j (h:j<(bd L).length) (h2:j<((bd L).map eA).length),((bd L).map eA)[j] = .agg (eC (bd L)[j]):=fun j h _=>by rw [List.getElem_map]; rfl
  by_cases hn:bd L=[]
  ·have hq:bp L closed=[]:=by
    have:=gO L closed
    cases hc:bp L closed with
    | nil=>rfl
    | cons a l =>
     have h1:a∈bd L:=by
      unfold bp at hc
      split at hc
      ·exact ql _ _ a (by rw [hc]; exact List.mem_cons_self)
      ·rw [hc]; exact List.mem_cons_self
     rw [hn] at h1; cases h1
   have eb:cR 6 2 []=[]:=rfl
   have wkn:Wk (.agg [.sl 0 true [],.bool closed]) (.agg [.sl 6 false [],.bool closed]):=Wk.agg (.cons (Wk.nil 0 6 true) (.cons (Wk.refl _) .nil))
   rw [hn,hq]
   simp only [List.map_nil,og,eb,List.append_nil]
   simp -implicitDefEqProofs [go_sem,a1,hPl]
   refine ap 3 (α:=Unit) (fun _=>[(1,.ptr 0 0 0),(2,.ptr 1 0 0),(3,.sl 0 true [])]) (fun _=>[(0,.live 2 [.agg [.sl 6 false U,.bool closed]]),(1,.live 2 [.agg [.sl 0 true [],.bool false]])]) (fun _=>0) () [] (by simp) (fun _ _ _ _ h=>h) (by simp) (by simp -implicitDefEqProofs [go_sem]) (by simp -implicitDefEqProofs [go_sem,renL_ro (nm []) _ hr,cloL_ro (n:=3) _ hr]) fun _=>?_
   have c2:¬(1:Int)<0:=by omega
   simp -implicitDefEqProofs [go_sem]
   refine aU (by kernel_rfl) ?_
   cases closed
   ·simp -implicitDefEqProofs [go_sem,aL]
    exact wkn
   ·simp -implicitDefEqProofs [go_sem,c2,aL]
    exact wkn
  ·generalize hC:bd L=C at *
   generalize hW:C.map eA=W at *
   have hn0:0<C.length:=by have:=mt List.length_eq_zero_iff.1 hn; omega
   have hWn:W≠[]:=by rw [←hW]; simpa using hn
   have hWt:∀m,W.take m=(C.take m).map eA:=fun m=>by rw [←hW,List.map_take]
   simp only [aV hWn,aC hWn]
   simp -implicitDefEqProofs [go_sem,a1,hPl]
   refine ap 3 (α:={p:Nat×Nat // p.1≤C.length∧p.1≤p.2∧(closed=true→bp L closed=gM p.2 (C.take p.1))∧(closed=false→p.1=C.length)}) (fun p=>[(1,.ptr 0 0 0),(2,.ptr 1 0 0),(3,.own 6 2 0 p.1.1)])
    (fun p=>[(0,.live 2 [.agg [.sl 6 false U,.bool closed]]),(1,.live 2 [.agg [.sl 0 true [],.bool false]]),(2,.live 6 W)]) (fun p=>p.1.1) ⟨(C.length,L.length),Nat.le_refl _,by omega,fun h=>by rw [List.take_length,←hC]; unfold bp; rw [if_pos h],fun _=>rfl⟩ [] (by simp) (fun _ _ _ _ h=>h) (by simp) (by simp -implicitDefEqProofs [go_sem,hWl]) (by simp -implicitDefEqProofs [go_sem,renL_ro (nm []) _ hr,cloL_ro (n:=3) _ hr,renL_ro (nm []) _ hWr,cloL_ro (n:=3) _ hWr]) fun ⟨(m,g),hm,hmg,htr,hcf⟩=>?_
   simp only at hm hmg htr hcf
   cases closed
   ·have e:=hcf rfl
    subst e
    simp -implicitDefEqProofs [go_sem]
    refine aU (by kernel_rfl) ?_
    simp -implicitDefEqProofs [go_sem,aL]
    refine ⟨by omega,bV hWr,?_⟩
    rw [hWt,List.take_length]
    unfold bp
    rw [if_neg (by decide),hC]
    exact Wk.refl _
   ·have htr:=htr rfl
    have wkm:Wk (.agg [.sl 6 false (W.take m),.bool true]) (.agg [.sl 6 false ((C.take m).map eA),.bool true]):=by rw [hWt]; exact Wk.refl _
    by_cases c1:1<m
    ·obtain ⟨k,rfl⟩:∃k,m=k+1:=⟨m-1,by omega⟩
     have c2:(1:Int)<(k:Int)+1:=by omega
     have b0:0<W.length:=by omega
     have b1:k<W.length:=by omega
     have g0:=hWg 0 (by omega) b0
     have g1:=hWg k (by omega) b1
     have z0:=hCm _ (List.getElem_mem (show 0<C.length by omega))
     have z1:=hCm _ (List.getElem_mem (show k<C.length by omega))
     have ksm:=nH (C[k]'(by omega)) (C[0]'(by omega)) (by omega) (by omega)
     rw [aP,aP] at ksm
     have w1:IntKind.i64.wrap (k:Int)=k:=by rw [bS (by omega)]
     have c3:(0:Int)<(k:Int)+1:=by omega
     have hk1:1≤k:=by omega
     have c4:(k:Int)<(k:Int)+1:=by omega
     have hkl:(k:Int)≤(k:Int)+1:=by omega
     have hkn:k≤W.length:=by omega
     by_cases e:C[k]'(by omega)=C[0]'(by omega)
     ·have hst:=sr (f:=g-1) hm c1 (by simpa using e.symm)
      rw [show g-1+1=g by omega,Nat.add_sub_cancel] at hst
      rw [hst] at htr
      simp -implicitDefEqProofs [go_sem]
      refine aU (by kernel_rfl) ?_
      simp -implicitDefEqProofs [go_sem,c2,c3,c4,b0,b1,g0,g1,w1]
      refine ao _ ksm (by simp [go_sem]) ?_
      simp -implicitDefEqProofs [go_sem,e,c2,c3,w1,hkl,hkn]
      exact ae ⟨(k,g-1),by omega,by omega,fun _=>htr,fun h=>by cases h⟩ (by simp only; omega) [] (by simp) (fun _ _ _ _ h=>h) (by simp) (by simp -implicitDefEqProofs [go_sem]) (by simp -implicitDefEqProofs [go_sem,renL_ro (nm []) _ hr,cloL_ro (n:=3) _ hr,renL_ro (nm []) _ hWr,cloL_ro (n:=3) _ hWr])
     ·have hst:=kP (f:=g) hm (fun h=>e (by simpa using (h.2 h.1).symm))
      rw [hst] at htr
      rw [←htr] at wkm
      simp -implicitDefEqProofs [go_sem]
      refine aU (by kernel_rfl) ?_
      simp -implicitDefEqProofs [go_sem,c2,c3,c4,b0,b1,g0,g1,w1]
      refine ao _ ksm (by simp [go_sem]) ?_
      simp -implicitDefEqProofs [go_sem,e,c2,c3,w1,hm,aL]
      exact ⟨by omega,bV hWr,wkm⟩
    ·have c2:¬(1:Int)<(m:Int):=by omega
     have hst:=kP (f:=g) hm (fun h=>c1 h.1)
     rw [hst] at htr
     rw [←htr] at wkm
     simp -implicitDefEqProofs [go_sem]
     refine aU (by kernel_rfl) ?_
     simp -implicitDefEqProofs [go_sem,c2,aL]
     exact ⟨by omega,bV hWr,wkm⟩
end Go.Proofs.YtdnmfaljidjijaaGreat
