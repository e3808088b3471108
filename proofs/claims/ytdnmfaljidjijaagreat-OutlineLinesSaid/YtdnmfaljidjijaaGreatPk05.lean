import Derived.Test.YtdnmfaljidjijaaGreatPk04
namespace Go.Proofs.YtdnmfaljidjijaaGreat
set_option maxHeartbeats 32000000
open Go Go.Proofs
set_option linter.unusedSimpArgs false
set_option linter.unusedVariables false
set_option maxRecDepth 20000
def mV (x:List PR×Bool):AV := .agg [Hk x.1,.bool x.2]
theorem Dn (x:List PR×Bool):ro (mV x):=by unfold mV; simp only [ro,roL]; exact ⟨Hw _,trivial,trivial⟩
theorem Dk (L:List (List PR×Bool)):roL (L.map mV):=bC Dn
def Ff (L:List (List PR×Bool)):AV := .sl 2 false (L.map mV)
theorem oP (p:PR) (hp:p.In 1000000):ab Tryz.prog 81 [p.av] (pA p.val):=by
 have k:=KS p hp.mono
 unfold pZ at k
 refine Pg Tryz.func81 rfl [.cell 2 72] rfl (ji _) ?_
 unfold PR.av at *
 generalize p.val=q at *
 simp only [cE] at *
 simp -implicitDefEqProofs [go_sem]
 refine ag k ?_
 simp -implicitDefEqProofs [go_sem,aS]
theorem um (L:List (List PR×Bool)) (hL:L.length≤1024) (hl:∀p∈L,p.1.length≤1048576) (hp:∀p∈L,∀q∈p.1,q.In 1000000) :
 ab Tryz.prog 26 [Ff L] (Iv (eE (L.map fun p=>p.1.map PR.val))):=by
 refine ab.of_ca (Hv _) (Cz Tryz.func26 rfl [.tmp 2] rfl ?_)
 have hLr:=Dk L
 have hLPl:(L.map mV).length=L.length:=by simp
 have gL:∀i (h:i<L.length),bk (L.map mV) (i:Int) = .agg [.sl 6 false (L[i].1.map PR.av),.bool L[i].2]:=fun i h=>tS h
 unfold Ff
 generalize L.map mV=LP at *
 obtain ⟨LV,hLV⟩:∃LV,LV=L.map fun p=>p.1.map PR.val:=⟨_,rfl⟩
 rw [←hLV]
 have hLVl:LV.length=L.length:=by rw [hLV]; simp
 have hLVg:∀i (h:i<L.length),LV[i]'(by omega)=L[i].1.map PR.val:=fun i h=>by subst hLV; rw [List.getElem_map]
 have hEl:∀i,i≤L.length→(eE (LV.take i)).length≤i*1048576:=fun i hi=>by
  refine Nat.le_trans (zu (n:=1048576) fun l h=>?_) (by rw [List.length_take]; exact Nat.mul_le_mul_right _ (by omega))
  have:=List.mem_of_mem_take h
  rw [hLV] at this
  obtain ⟨p,hp,rfl⟩:=List.mem_map.1 this
  rw [List.length_map]; exact hl p hp
 obtain ⟨H,hH⟩:∃H:Nat→List AV,H=fun i=>(eE (LV.take i)).map DL:=⟨_,rfl⟩
 have hHr:∀i,roL (H i):=fun i=>by rw [hH]; exact w9 _
 have hH0:H 0=[]:=by rw [hH]; rfl
 have hHe:Iv (eE LV) = .sl 12 false (H L.length):=by rw [hH]; simp only; rw [List.take_of_length_le (by omega)]; rfl
 have hHl:∀i,i≤L.length→(H i).length≤1073741824:=fun i hi=>by
  have:=hEl i hi
  rw [hH,List.length_map]
  omega
 rw [hHe]
 simp -implicitDefEqProofs [go_sem]
 refine aj 1 (α:={i:Nat // i≤L.length}) (fun i=>[(3,b9 12 0 (H i.1)),(9,.sl 2 false LP),(10,.int .i64 L.length),(11,.int .i64 i.1)])
  (fun i=>dZ 12 0 (H i.1)) (fun i=>L.length-i.1) ⟨0,Nat.zero_le _⟩ [] (by simp) (fun _ _ _ _ h=>h) (by simp) (by simp -implicitDefEqProofs [go_sem,hH0,hLPl,renL_ro (nm []) _ hLr,cloL_ro (n:=1) _ hLr]) (by simp -implicitDefEqProofs [go_sem,hH0]) fun ⟨i,hi⟩=>?_
 have hHi:=hHl i hi
 have hHir:=hHr i
 by_cases a:i<L.length
 ·have a1:(i:Int)<L.length:=by omega
  have gi:=gL i a
  have hli:=hl _ (List.getElem_mem a)
  have hpi:=hp _ (List.getElem_mem a)
  have hE1:H (i+1)=H i++(uH (L[i].1.map PR.val)).map DL:=by
   rw [hH]
   simp only
   rw [List.take_succ_eq_append_getElem (by omega),hLVg i a,vL,List.map_append]
  have w1:=wS i (by omega)
  generalize L[i]=pp at *
  obtain ⟨p,cl⟩:=pp
  simp only at gi hli hpi hE1
  have prr:=xb p
  obtain ⟨q,hq⟩:∃q,q=p.map PR.val:=⟨_,rfl⟩
  rw [←hq] at hE1
  have hql:q.length=p.length:=by rw [hq]; simp
  have hqg:∀k (h:k<p.length),q.getD k ⟨0,0⟩=p[k].val:=fun k h=>by rw [List.getD_eq_getElem?_getD,hq,List.getElem?_map,List.getElem?_eq_getElem h]; rfl
  have gP:∀k (h:k<p.length),bk (p.map PR.av) (k:Int) = .agg p[k].cs:=fun k h=>by rw [tS h]; rfl
  have hPPl:(p.map PR.av).length=p.length:=by simp
  generalize p.map PR.av=PP at *
  obtain ⟨G,hG⟩:∃G:Nat→List AV,G=fun k=>H i++(mS q k).map DL:=⟨_,rfl⟩
  have hGr:∀k,roL (G k):=fun k=>by rw [hG]; exact aB.2 ⟨hHir,w9 _⟩
  have hG0:G 0=H i:=by rw [hG]; simp [mS]
  have hGe:G p.length=H (i+1):=by rw [hG,hE1,←hql]; rfl
  have hGl:∀k,k≤p.length→(G k).length≤1100000000:=fun k hk=>by
   have:=qR q k
   rw [hG,List.length_append,List.length_map]; omega
  have hGs:∀k,G (k+1)=G k++(if (q.getD k ⟨0,0⟩).y=(q.getD ((k+1)%q.length) ⟨0,0⟩).y then [] else [DL (q.getD k ⟨0,0⟩,q.getD ((k+1)%q.length) ⟨0,0⟩)]):=fun k=>by
   rw [hG]
   simp only
   rw [wZ,List.map_append,List.append_assoc]
   split<;>rfl
  simp -implicitDefEqProofs [go_sem,a1,a,gi,hLPl]
  refine aj 2 (α:={k:Nat // k≤p.length}) (fun k=>[(3,b9 12 0 (G k.1)),(5,.ptr 1 0 0),(9,.sl 2 false LP),(10,.int .i64 L.length),(11,.int .i64 i),(16,.sl 6 false PP),(17,.int .i64 p.length),(18,.int .i64 k.1)])
   (fun k=>(1,.live 2 [.agg [.sl 6 false PP,.bool cl]])::dZ 12 0 (G k.1)) (fun k=>p.length-k.1) ⟨0,Nat.zero_le _⟩ [] (by simp) (fun _ _ _ _ h=>h) (by simp) (by simp -implicitDefEqProofs [go_sem,hG0,hPPl,renL_ro (nm []) _ hLr,cloL_ro (n:=2) _ hLr,renL_ro (nm []) _ prr,cloL_ro (n:=2) _ prr]) (by simp -implicitDefEqProofs [go_sem,hG0,renL_ro (nm []) _ hHir,cloL_ro (n:=2) _ hHir,renL_ro (nm []) _ prr,cloL_ro (n:=2) _ prr]) fun ⟨k,hk⟩=>?_
  have hFr:=hGr k
  have hFl:=hGl k hk
  by_cases b:k<p.length
  ·have b1:(k:Int)<p.length:=by omega
   have hmod:(k+1)%p.length<p.length:=Nat.mod_lt _ (by omega)
   have g1:=gP k b
   have g2:=gP _ hmod
   have e1:=wT k (by omega)
   have e2:Int.tmod ((k:Int)+1) (p.length:Int)=((k+1)%p.length:Nat):=by rw [Int.tmod_eq_emod_of_nonneg (by omega)]; rfl
   have hsucc:=hGs k
   rw [hqg k b,hql,hqg _ hmod] at hsucc
   have hx:=hpi _ (List.getElem_mem b)
   have hy:=hpi _ (List.getElem_mem hmod)
   have hFr1:=hGr (k+1)
   generalize (k+1)%p.length=j at *
   have kc:=jB p[k].y p[j].y (hx.y.mono (m:=1000000)).sm (hy.y.mono (m:=1000000)).sm
   have kg1:=oP p[k] hx
   have kg2:=oP p[j] hy
   have hc0:bW p[k].y.val p[j].y.val=0↔p[k].val.y=p[j].val.y:=rF
   have hp0:¬p.length=0:=by omega
   have u6:p[k].cs.length=6:=rfl
   have u7:p[k].cs.take 6=p[k].cs:=rfl
   have u8:p[k].cs.drop 6=[]:=rfl
   have u9:=p[k].ro_cs
   have v6:p[j].cs.length=6:=rfl
   have v7:p[j].cs.take 6=p[j].cs:=rfl
   have v8:p[j].cs.drop 6=[]:=rfl
   have v9:=p[j].ro_cs
   have u10:(p[k].cs.drop 3).take 3=p[k].y.cells:=rfl
   have v10:(p[j].cs.drop 3).take 3=p[j].y.cells:=rfl
   have u11:roL p[k].y.cells:=by unfold RQ.cells; simp -implicitDefEqProofs [go_sem]
   have v11:roL p[j].y.cells:=by unfold RQ.cells; simp -implicitDefEqProofs [go_sem]
   rw [show p[k].y.av = .agg p[k].y.cells from rfl,show p[j].y.av = .agg p[j].y.cells from rfl] at kc
   rw [PR.av_cs,cE] at kg1 kg2
   generalize p[k].y.cells=YA' at *
   generalize p[j].y.cells=YB at *
   generalize bW p[k].y.val p[j].y.val=cc at *
   generalize p[k].val=x at *
   generalize p[j].val=y at *
   generalize p[k].cs=S at *
   generalize p[j].cs=S2 at *
   simp -implicitDefEqProofs [go_sem,b1,b,hp0,hPPl,g1,g2,e1,e2,u6,u7,u8,u10,v6,v7,v8,v10]
   refine az (by kernel_rfl) ?_
   simp -implicitDefEqProofs [go_sem,b1,b,hp0,hPPl,g1,g2,e1,e2,u6,u7,u8,u10,v6,v7,v8,v10]
   refine ⟨hmod,ai _ kc (by simp [go_sem,u11,v11]) ?_⟩
   by_cases hyy:x.y=y.y
   ·have hcc:=hc0.2 hyy
    rw [if_pos hyy,List.append_nil] at hsucc
    simp -implicitDefEqProofs [go_sem,hcc,e1]
    exact ae ⟨k+1,b⟩ (by simp only; omega) [] (by simp) (fun _ _ _ _ h=>h) (by simp) (by simp -implicitDefEqProofs [go_sem,hsucc,renL_ro (nm []) _ hLr,cloL_ro (n:=2) _ hLr,renL_ro (nm []) _ prr,cloL_ro (n:=2) _ prr]) (by simp -implicitDefEqProofs [go_sem,hsucc,renL_ro (nm []) _ hFr,cloL_ro (n:=2) _ hFr,renL_ro (nm []) _ prr,cloL_ro (n:=2) _ prr]; intro h; rw [if_neg h]; rfl)
   ·have hcc:¬cc=0:=fun h=>hyy (hc0.1 h)
    rw [if_neg hyy] at hsucc
    have ee:DL (x,y) = .agg (pC x++pC y):=rfl
    rw [ee] at hsucc
    simp -implicitDefEqProofs [go_sem,hcc,u6,u7]
    refine az (by kernel_rfl) ?_
    simp -implicitDefEqProofs [go_sem,hcc,u6,u7]
    refine aC _ kg1 (by simp [go_sem,u9]) ?_
    simp -implicitDefEqProofs [go_sem,v6,v7]
    refine aC _ kg2 (by simp [go_sem,v9]) ?_
    simp -implicitDefEqProofs [go_sem,show ∀a b c d e f:AV,(pC x++[a,b,c,d,e,f]).drop 12=[] from fun _ _ _ _ _ _=>rfl]
    refine bf (.inl rfl) (by omega) (by omega) (by simp -implicitDefEqProofs [go_sem]) (by simp<;>omega) (by simp -implicitDefEqProofs [go_sem]; intro h; rw [if_neg h]; rfl) ?_
    simp -implicitDefEqProofs [go_sem,e1]
    rw [hsucc] at hFr1
    have r1:=renL_ro (nm [(0,22)]) _ hFr1
    have r2:=cloL_ro (n:=2) _ hFr1
    exact ae ⟨k+1,b⟩ (by simp only; omega) [(0,22)] (by simp) (by simp only [hsucc,bh]; simp [nm]) (by simp) (by simp only [hsucc,dF]; simp -implicitDefEqProofs [go_sem,renL_ro (nm [(0,22)]) _ hLr,cloL_ro (n:=2) _ hLr,renL_ro (nm [(0,22)]) _ prr,cloL_ro (n:=2) _ prr]) (by
     simp only [hsucc,bh]
     simp -implicitDefEqProofs [go_sem,r1,r2,renL_ro (nm [(0,22)]) _ prr,cloL_ro (n:=2) _ prr])
  ·have hkk:k=p.length:=by omega
   have b1:¬(k:Int)<p.length:=by omega
   subst hkk
   simp -implicitDefEqProofs [go_sem,b1,w1]
   exact ae ⟨i+1,a⟩ (by simp only; omega) [] (by simp) (fun _ _ _ _ h=>h) (by simp) (by simp -implicitDefEqProofs [go_sem,hGe,w1,renL_ro (nm []) _ hLr,cloL_ro (n:=1) _ hLr]) (by simp -implicitDefEqProofs [go_sem,hGe,renL_ro (nm []) _ (hHr (i+1)),cloL_ro (n:=1) _ (hHr (i+1))])
 ·have hii:i=L.length:=by omega
  have a1:¬(i:Int)<L.length:=by omega
  subst hii
  simp -implicitDefEqProofs [go_sem,a1]
  by_cases h:H L.length=[]
  ·simp -implicitDefEqProofs [go_sem,h]
   exact Wk.nil 0 12 true
  ·simp -implicitDefEqProofs [go_sem,aN h,h,hHir]
   exact Wk.refl _
theorem qD:ab Tryz.prog 29 [] (oJ cN).av:=by
 have km:=CG 65536 0 0 65536 0 0 (by omega) (by omega) (by omega) (by omega) (by omega) (by omega)
 have eM:(⟨((65536:Int):Rat) / (65536:Int),((0:Int):Rat) / (65536:Int),((0:Int):Rat) / (65536:Int),((65536:Int):Rat) / (65536:Int),((0:Int):Rat) / (64:Int),((0:Int):Rat) / (64:Int)⟩:MQ)=cN:=by unfold cN; simp only [MQ.mk.injEq]; decide +kernel
 rw [eM] at km
 have m0:(oJ cN).cs.length=18:=rfl
 have m2:=(oJ cN).ro_cs
 have m3:(oJ cN).cs.take 18=(oJ cN).cs:=rfl
 refine Pg Tryz.func29 rfl [.cell 0 29] rfl (by unfold MR.av; simp -implicitDefEqProofs [go_sem,m2]) ?_
 unfold MR.av at *
 generalize (oJ cN).cs=S at *
 simp -implicitDefEqProofs [go_sem]
 refine ag km ?_
 simp -implicitDefEqProofs [go_sem,aS,m0,m2,m3,viewL_ro _ _ m2,fitsL_ro _ _ m2]
theorem Fl:sz cN.a≤1∧sz cN.b≤1∧sz cN.c≤1∧sz cN.d≤1∧sz cN.e≤1∧sz cN.f≤1:=by
 have z1:sz (1:Rat)≤1:=by rw [iF]; exact Nat.le_refl _
 have z0:sz (0:Rat)≤1:=by rw [show sz 0=1 from by have:=sX 0; simpa [ss] using this]; omega
 exact ⟨z1,z0,z0,z1,z0,z0⟩
theorem EF {n:Nat} (hn:1≤n):(oJ cN).In n:=by
 obtain ⟨a,b,c,d,e,f⟩:=Fl
 exact ⟨gh (by omega),gh (by omega),gh (by omega),gh (by omega),gh (by omega),gh (by omega)⟩
def th (k x y:Int):Sg:=⟨k,fun i=>if i=0 then x else if i=1 then y else 0,0⟩
theorem Do {k x y:Int} (hk:k=1∨k=2∨(k=6∧x=0∧y=0)) (hx:0≤x∧x≤64) (hy:0≤y∧y≤64):(th k x y).Good:=by
 have hc:fp k=2∨(x=0∧y=0):=by
  rcases hk with rfl|rfl|⟨_,h⟩
  ·exact .inl rfl
  ·exact .inl rfl
  ·exact .inr h
 refine ⟨by unfold th; simp only; omega,by unfold th; simp only; omega,fun i hi=>?_,by unfold th; simp only; rw [if_neg (by omega)]; trivial⟩
 unfold th
 simp only
 split
 ·refine ⟨by omega,by omega,fun h=>?_⟩; rcases hc with hc|hc
  ·omega
  ·exact hc.1
 ·split
  ·refine ⟨by omega,by omega,fun h=>?_⟩; rcases hc with hc|hc
   ·omega
   ·exact hc.2
  ·exact ⟨by omega,by omega,fun _=>rfl⟩
def yM:List Sg:=[th 1 0 0,th 2 64 0,th 2 64 64,th 2 0 0,th 6 0 0]
theorem ve:bL yM:=by
 refine ⟨by simp [yM],by simp [yM],fun s hs=>?_,fun s hs=>?_,?_⟩
 ·have:s=th 1 0 0:=by simpa [yM] using hs.symm
  rw [this]; rfl
 ·simp only [yM,List.mem_cons,List.not_mem_nil,or_false] at hs
  rcases hs with rfl|rfl|rfl|rfl|rfl<;>exact Do (by omega) (by omega) (by omega)
 ·refine ⟨fun h=>?_,fun h=>?_,fun h=>?_,fun h=>?_,trivial⟩
  ·exact absurd h.1 (by decide)
  ·exact absurd h.1 (by decide)
  ·exact absurd h.1 (by decide)
  ·exact absurd h.1 (by decide)
theorem AX:dL yM cN 1=([([wP 0 0,wP 1 0,wP 1 1],true)],0):=by
 have e1:aU yM=[⟨0,0,[th 2 64 0,th 2 64 64,th 2 0 0],true⟩]:=rfl
 have e2:dE cN 1 ⟨0,0,[th 2 64 0,th 2 64 64,th 2 0 0],true⟩=[au 0 0,au 64 0,au 64 64,au 0 0]:=by
  unfold dE
  rw [pt (by decide +kernel) _ _ (fun s hs=>by
   simp only [List.mem_cons,List.not_mem_nil,or_false] at hs
   rcases hs with rfl|rfl|rfl<;>rfl)]
  simp only [nC,List.map_cons,List.map_nil]
  rfl
 have e3:bz [au 0 0,au 64 0,au 64 64,au 0 0] true=[wP 0 0,wP 1 0,wP 1 1]:=by decide +kernel
 unfold dL
 rw [if_neg (fun h=>h ve),if_neg (by decide +kernel)]
 unfold dM
 rw [e1]
 simp only [List.map_cons,List.map_nil,ly,e2,e3]
theorem Hm (l:List PQ):Hk (l.map pc)=pL l:=by unfold Hk pL; rw [List.map_map]; rfl
theorem E5 (L:List (List PQ×Bool)):kg L=Ff (L.map fun x=>(x.1.map pc,x.2)):=by
 unfold kg Ff
 rw [List.map_map]
 congr 1
 refine List.map_congr_left fun x _=>?_
 simp only [Function.comp_apply,jH,mV,Hm]
theorem EQ (L:List (List PQ×Bool)) (hL:L.length≤1024) (hl:∀p∈L,p.1.length≤1048576) (hp:∀p∈L,∀q∈p.1,q.sz≤1000000):ab Tryz.prog 26 [kg L] (Iv (eE (L.map Prod.fst))):=by
 have k:=um (L.map fun x=>(x.1.map pc,x.2)) (by simpa using hL) (fun p hh=>by
  obtain ⟨x,hx,rfl⟩:=List.mem_map.1 hh
  simpa using hl x hx) fun p hh q hq=>by
  obtain ⟨x,hx,rfl⟩:=List.mem_map.1 hh
  obtain ⟨y,hy,rfl⟩:=List.mem_map.1 hq
  exact cF (hp x hx y hy)
 rw [←E5,List.map_map] at k
 rw [show (fun p:List PR×Bool=>p.1.map PR.val)∘(fun x:List PQ×Bool=>(x.1.map pc,x.2))=Prod.fst from by funext x; simp only [Function.comp_apply,HS]] at k
 exact k
@[go_sem] theorem Lw (a b:Int):fJ Tryz.prog (some ⟨6,48,.array 6 2,[.int .i64 0,.int .i64 0,.int .i64 0,.int .i64 0,.int .i64 0,.int .i64 0]⟩) [(0,.int .i64 a),(1,.int .i64 b)]=some (True,.agg [.int .i64 a,.int .i64 b,.int .i64 0,.int .i64 0,.int .i64 0,.int .i64 0]):=by
 simp -implicitDefEqProofs [go_sem,fJ,jM]
theorem mQ:ab Tryz.prog 15 [] (.bool true):=by
 have zw:∀x y:Int,-100≤x∧x≤100 → -100≤y∧y≤100→(wP x y).sz≤1:=fun x y hx hy=>K5 (by omega) (by omega)
 have p00:=s_ 0 0 (by omega) (by omega)
 have p10:=s_ 1 0 (by omega) (by omega)
 have p11:=s_ 1 1 (by omega) (by omega)
 have z00:=zw 0 0 (by omega) (by omega)
 have z10:=zw 1 0 (by omega) (by omega)
 have z11:=zw 1 1 (by omega) (by omega)
 have kone:=qD
 have kof:=eW 1 1 (by omega) (by omega) (by omega)
 rw [show ((1:Int):Rat) / ((1:Int):Rat)=1 by decide +kernel] at kof
 have s1:sz (1:Rat)≤1:=by rw [iF]; exact Nat.le_refl _
 have kl:=oH yM (oJ cN) (qc 1) (by simp [yM]) (EF (by omega)) (gh (by omega)) fun _ h0=>by
  have h:=CS (m:=(oJ cN).val) (tol:=(qc 1).val) (l:=yM) h0 (fun q hq=>by rw [sj,nC]; omega) (by simp [yM]) ve (fun s hs=>by
   simp only [yM,List.mem_cons,List.not_mem_nil,or_false] at hs
   rcases hs with rfl|rfl|rfl|rfl|rfl<;>simp [th])
  exact ⟨by simp [yM],fun i b=>(h i).1 b⟩
 rw [sj,cd,AX] at kl
 have ke:=EQ [([wP 0 0,wP 1 0,wP 1 1],true)] (by simp) (by simp) (fun p hp q hq=>by
  simp only [List.mem_cons,List.not_mem_nil,or_false] at hp
  subst hp
  simp only [List.mem_cons,List.not_mem_nil,or_false] at hq
  rcases hq with rfl|rfl|rfl<;>omega)
 have e1:eE ([([wP 0 0,wP 1 0,wP 1 1],true)].map Prod.fst)=[(wP 1 0,wP 1 1),(wP 1 1,wP 0 0)]:=by decide +kernel
 rw [e1] at ke
 have ks1:=iz (wP 1 1) (by omega)
 have ks2:=iz (wP 1 0) (by omega)
 have ks3:=iz (wP 0 0) (by omega)
 have m0:(oJ cN).cs.length=18:=rfl
 have m2:=(oJ cN).ro_cs
 have hW:il yM = .sl 8 false [.agg [.int .i64 1,.int .i64 0,.int .i64 0,.int .i64 0,.int .i64 0,.int .i64 0,.int .i64 0,.int .i64 0],.agg [.int .i64 2,.int .i64 64,.int .i64 0,.int .i64 0,.int .i64 0,.int .i64 0,.int .i64 0,.int .i64 0],.agg [.int .i64 2,.int .i64 64,.int .i64 64,.int .i64 0,.int .i64 0,.int .i64 0,.int .i64 0,.int .i64 0],.agg [.int .i64 2,.int .i64 0,.int .i64 0,.int .i64 0,.int .i64 0,.int .i64 0,.int .i64 0,.int .i64 0],.agg [.int .i64 6,.int .i64 0,.int .i64 0,.int .i64 0,.int .i64 0,.int .i64 0,.int .i64 0,.int .i64 0]]:=rfl
 rw [hW] at kl
 unfold si kg at kl
 unfold kg Iv at ke
 simp only [List.map_cons,List.map_nil,jH,DL,pL] at kl ke
 rw [show (qc 1).av=rA 1 from rfl] at kl
 unfold MR.av at kone kl
 generalize (oJ cN).cs=S at *
 generalize wP 0 0=a at *
 generalize wP 1 0=b at *
 generalize wP 1 1=c at *
 simp only [cE] at *
 have gE2:∀a b c:AV,bk [a,b,c] 2=c:=fun _ _ _=>rfl
 have gE1:∀a b:AV,bk [a,b] 1=b:=fun _ _=>rfl
 have gE0:∀a b:AV,bk [a,b] 0=a:=fun _ _=>rfl
 have d6:∀p q:PQ,(pC p++pC q).drop 6=pC q:=fun _ _=>rfl
 have t6:∀p q:PQ,(pC p++pC q).take 6=pC p:=fun _ _=>rfl
 refine Pg Tryz.func15 rfl [.tmp 0] rfl (by simp -implicitDefEqProofs [go_sem]) ?_
 simp -implicitDefEqProofs [go_sem]
 refine ag kone ?_
 simp -implicitDefEqProofs [go_sem]
 refine ag kof ?_
 simp -implicitDefEqProofs [go_sem]
 refine x7 0 _ (fun K hK=>CA.of_pure_dead [0] kl (by simp -implicitDefEqProofs [go_sem,viewL_ro _ _ m2,yL _ _ (cA 1)]) (by simp -implicitDefEqProofs [go_sem,m2,cA]) (by simp -implicitDefEqProofs [go_sem,fitsL_ro _ _ m2,xR _ _ (cA 1)]) (by simp -implicitDefEqProofs [go_sem]) (hK _ fun j hj=>t_ hj)) fun f' hf'=>?_
 simp -implicitDefEqProofs [go_sem]
 refine ai _ ke (by simp [go_sem]) ?_
 simp -implicitDefEqProofs [go_sem,gE2,gE1,gE0]
 refine aa p11 ?_
 simp -implicitDefEqProofs [go_sem,gE2,gE1,gE0]
 refine aa ks1 ?_
 simp -implicitDefEqProofs [go_sem,gE2,gE1,gE0,d6,t6]
 refine aa p10 ?_
 simp -implicitDefEqProofs [go_sem,gE2,gE1,gE0,d6,t6]
 refine aa ks2 ?_
 simp -implicitDefEqProofs [go_sem,gE2,gE1,gE0,d6,t6]
 refine aa p00 ?_
 simp -implicitDefEqProofs [go_sem,gE2,gE1,gE0,d6,t6]
 refine aa ks3 ?_
 simp -implicitDefEqProofs [go_sem,aS]
theorem DF {B x:Rat}:x.abs≤B↔Wi B x:=by
 unfold Wi Rat.abs
 split<;>grind
def oF (l:List Sg) (m:MR) (tol:RQ) (fb:Bool):Prop:=l.length≤12∧fb=true∧tol.sml 1
def sg (l:List Sg) (m:MR) (tol:RQ):Prop:=tol.val≤0∨¬bL l∨(1 / 16≤tol.val∧∀s∈l,Ps m.val s)
def I_ (m:MQ) (s:Sg):Nat→Prop
 | 0=>True
 | c+1=>I_ m s c∧Pn m (s.v (2*c)) (s.v (2*c+1))
theorem yp {m:MQ} {s:Sg}:I_ m s 3↔Ps m s:=by
 unfold Ps
 simp only [I_,true_and,and_assoc]
theorem mP (l:List Sg) (m:MR) (tol:RQ) (hl:l.length≤9223372036854775807) (hm:m.Lm) (ht:tol.Lm):∃b:Bool,ab Tryz.prog 14 [il l,m.av,tol.av] (.bool b)∧(b=true→l.length≤12∧m.In 6∧tol.In 1∧(0<tol.val→bL l→1 / 16≤tol.val∧∀s∈l,Ps m.val s)):=by
 obtain ⟨fb,kf,hfb⟩:=wD m hm
 obtain ⟨b,hb⟩:∃b:Bool,(b=true↔(oF l m tol fb∧sg l m tol)):=by
  by_cases h:oF l m tol fb∧sg l m tol
  ·exact ⟨true,by simp [h]⟩
  ·exact ⟨false,by simp [h]⟩
 refine ⟨b,?_,fun h=>?_⟩
 rotate_left
 ·obtain ⟨⟨h1,h2,h3⟩,h4⟩:=hb.1 h
  refine ⟨h1,hfb h2,iE h3 ht,fun h0 hG=>?_⟩
  rcases h4 with h|h|h
  ·grind
  ·exact absurd hG h
  ·exact h
 have ks:=sQ tol 1
 have hsd:(tol.p.length≤1∧tol.q.length≤1)↔tol.sml 1:=Iff.rfl
 have kgd:=iV l hl
 have mro:=m.ro_cs
 have mlen:m.cs.length=18:=rfl
 have mtk:m.cs.take 18=m.cs:=rfl
 have hmav:m.av = .agg m.cs:=rfl
 have htav:tol.av = .agg tol.cells:=rfl
 have tro:roL tol.cells:=by have:=yH tol; rw [htav] at this; simpa only [ro] using this
 have tlen:tol.cells.length=3:=rfl
 have ttk:tol.cells.take 3=tol.cells:=rfl
 have sro:=sN l
 have hVr:=dN l
 have hVl:(l.map Sg.av).length=l.length:=by simp
 have hVg:∀i (h:i<l.length),bk (l.map Sg.av) (i:Int) = .agg l[i].cs:=fun i h=>ft h
 have kin:fb=true→ab Tryz.prog 18 [m.av] (vP m.val):=fun h=>ug m ⟨(hfb h).a.mono,(hfb h).b.mono,(hfb h).c.mono,(hfb h).d.mono,(hfb h).e.mono,(hfb h).f.mono⟩
 have k3':tol.sml 1→ab Tryz.prog 19 [tol.av] (fA tol.val):=fun h=>tO tol (iE h ht).mono
 have hzt:tol.sml 1→sz tol.val≤1:=fun h=>(iE h ht).sz
 have hmz:fb=true→sz m.val.a≤6∧sz m.val.b≤6∧sz m.val.c≤6∧sz m.val.d≤6∧sz m.val.e≤6∧sz m.val.f≤6:=fun h=>⟨(hfb h).a.sz,(hfb h).b.sz,(hfb h).c.sz,(hfb h).d.sz,(hfb h).e.sz,(hfb h).f.sz⟩
 have happ:fb=true→∀x y:Int,-9223372036854775808≤x∧x≤9223372036854775807 → -9223372036854775808≤y∧y≤9223372036854775807→(m.val.app (au x y)).sz≤100:=fun h x y hx hy=>by have:=nL (hfb h) (by omega) (dn hx hy); omega
 rw [hmav] at kf kin ⊢
 rw [htav] at k3'
 rw [htav] at ks ⊢
 have hks:decide (tol.p.length≤1∧tol.q.length≤1)=decide (tol.sml 1):=rfl
 refine ab.of_ca (by simp -implicitDefEqProofs [go_sem]) (Cz Tryz.func14 rfl [.tmp 6] rfl ?_)
 unfold il at *
 have noA:¬oF l m tol fb→b=false:=fun h=>by
  cases b
  ·rfl
  ·exact absurd (hb.1 rfl).1 h
 have noB:¬sg l m tol→b=false:=fun h=>by
  cases b
  ·rfl
  ·exact absurd (hb.1 rfl).2 h
 have yes:oF l m tol fb→sg l m tol→b=true:=fun h1 h2=>hb.2 ⟨h1,h2⟩
 generalize m.cs=M at *
 generalize tol.cells=TC at *
 generalize l.map Sg.av=V at *
 by_cases a1:12<l.length
 ·have a2:(12:Int)<l.length:=by omega
  rw [noA fun h=>by have:=h.1; omega]
  simp -implicitDefEqProofs [go_sem,mlen,mtk,mro,tlen,ttk,tro,a1,a2,hVl]
  exact Wk.refl _
 have a2:¬(12:Int)<l.length:=by omega
 cases fb
 ·rw [noA fun h=>by have:=h.2.1; cases this]
  simp -implicitDefEqProofs [go_sem,mlen,mtk,mro,tlen,ttk,tro,a1,a2,hVl]
  refine ai _ kf (by simp [go_sem,mro]) ?_
  simp -implicitDefEqProofs [go_sem]
  exact Wk.refl _
 by_cases a3:tol.sml 1
 rotate_left
 ·rw [noA fun h=>a3 h.2.2]
  simp -implicitDefEqProofs [go_sem,mlen,mtk,mro,tlen,ttk,tro,a1,a2,hVl]
  refine ai _ kf (by simp [go_sem,mro]) ?_
  simp -implicitDefEqProofs [go_sem,tlen,ttk]
  refine ai _ ks (by simp [go_sem,tro]) ?_
  simp -implicitDefEqProofs [go_sem,show ¬(tol.p.length≤1∧tol.q.length≤1) from a3]
  exact Wk.refl _
 have hA:oF l m tol true:=⟨by omega,rfl,a3⟩
 have yes:(tol.val≤0∨¬bL l∨(1 / 16≤tol.val∧∀s∈l,Ps m.val s))→b=true:=yes hA
 have noB:¬(tol.val≤0∨¬bL l∨(1 / 16≤tol.val∧∀s∈l,Ps m.val s))→b=false:=noB
 simp -implicitDefEqProofs [go_sem,mlen,mtk,mro,tlen,ttk,tro,a1,a2,hVl]
 refine ai _ kf (by simp [go_sem,mro]) ?_
 simp -implicitDefEqProofs [go_sem,tlen,ttk]
 refine ai _ ks (by simp [go_sem,tro]) ?_
 simp -implicitDefEqProofs [go_sem,show (tol.p.length≤1∧tol.q.length≤1) from a3,tlen,ttk]
 have k3:=k3' a3
 have kin:=kin rfl
 have hmz:=hmz rfl
 have happ:=happ rfl
 have hzt:=hzt a3
 have hft:fA tol.val = .agg (fC tol.val):=rfl
 have k4:=cZ tol.val
 have z4:=iC (x:=tol.val)
 have k5:=bS 1 16 (by omega) (by omega) (by omega)
 have k6:=bS 64 1 (by omega) (by omega) (by omega)
 rw [show ((1:Int):Rat) / ((16:Int):Rat)=1 / 16 from rfl] at k5
 rw [show ((64:Int):Rat) / ((1:Int):Rat)=64 by decide +kernel] at k6
 rw [hft] at k3 k4
 have z16:sz (1 / 16:Rat)≤1:=by rw [show (1 / 16:Rat)=Rat.divInt 1 16 from by decide +kernel]; decide +kernel
 have k7:=dh tol.val (1 / 16) (by omega) (by omega)
 have c7:=jp (x:=tol.val) (y:=1 / 16)
 rw [hft] at k7
 have rfc:=fun x:Rat=>lh x
 have lfc:∀x:Rat,(fC x).length=3:=fun _=>rfl
 have tfc:∀x:Rat,(fC x).take 3=fC x:=fun _=>rfl
 have dfc:∀x:Rat,(fC x).drop 3=[]:=fun _=>rfl
 simp only [co] at k5 k6 k7
 generalize tol.val=t at *
 refine ai _ k3 (by simp [go_sem,tro]) ?_
 simp -implicitDefEqProofs [go_sem,lfc,tfc,dfc]
 refine ag k4 ?_
 by_cases a4:cP t≤0
 ·rw [yes (.inl (z4.1 a4))]
  simp -implicitDefEqProofs [go_sem,a4]
  exact Wk.refl _
 simp -implicitDefEqProofs [go_sem,a4]
 refine ai _ kgd (by simp [go_sem,hVr]) ?_
 by_cases a5:bL l
 rotate_left
 ·rw [yes (.inr (.inl a5))]
  simp -implicitDefEqProofs [go_sem,a5]
  exact Wk.refl _
 simp -implicitDefEqProofs [go_sem,a5]
 refine az (by kernel_rfl) ?_
 simp -implicitDefEqProofs [go_sem,lfc,tfc,dfc]
 refine aa k5 ?_
 simp -implicitDefEqProofs [go_sem,lfc,tfc,dfc]
 refine aa k7 ?_
 have a40:¬t≤0:=fun h=>a4 (z4.2 h)
 by_cases a6:t<1 / 16
 ·rw [noB fun h=>by
   rcases h with h|h|h
   ·exact a40 h
   ·exact h a5
   ·exact absurd a6 (by have:=h.1; grind)]
  simp -implicitDefEqProofs [go_sem,c7.2 a6]
  exact Wk.refl _
 have a60:1 / 16≤t:=by grind
 have yes:(∀s∈l,Ps m.val s)→b=true:=fun h=>yes (.inr (.inr ⟨a60,h⟩))
 have noB:¬(∀s∈l,Ps m.val s)→b=false:=fun h=>noB fun h1=>by
  rcases h1 with h1|h1|h1
  ·exact a40 h1
  ·exact h1 a5
  ·exact h h1.2
 have c70:¬bW t (1 / 16)<0:=fun h=>a6 (c7.1 h)
 simp -implicitDefEqProofs [go_sem,c70]
 refine ag k6 ?_
 simp -implicitDefEqProofs [go_sem,lfc,tfc,dfc]
 have mrr:=fun rn=>renL_ro rn _ mro
 have mrc:=cloL_ro (n:=8) _ mro
 have vrr:=fun rn=>renL_ro rn _ hVr
 have vrc:=cloL_ro (n:=8) _ hVr
 have hgi:∀i (h:i<l.length),l[i].Good:=fun i h=>a5.2.2.2.1 _ (List.getElem_mem h)
 refine aj 8 (α:={i:Nat // i≤l.length∧∀s∈l.take i,Ps m.val s}) (fun i=>[(0,.sl 8 false V),(4,.ptr 0 0 0),(8,.ptr 7 0 0),(9,.int .i64 i.1)])
  (fun i=>[(0,.live 18 [.agg M]),(7,.live 3 [.agg (fC 64)])]) (fun i=>l.length-i.1) ⟨0,Nat.zero_le _,by simp⟩ [] (by simp) (fun _ _ _ _ h=>h) (by simp) (by simp -implicitDefEqProofs [go_sem,vrr,vrc]) (by simp -implicitDefEqProofs [go_sem,mrr,mrc]) fun ⟨i,hi,hPi⟩=>?_
 by_cases a:i<l.length
 ·have a1':(i:Int)<l.length:=by omega
  have es:=wS i (by omega)
  have gi:=hVg i a
  have hg1:=hgi i a
  have hcs:l[i].cs=[.int .i64 l[i].k,.int .i64 (l[i].v 0),.int .i64 (l[i].v 1),.int .i64 (l[i].v 2),.int .i64 (l[i].v 3),.int .i64 (l[i].v 4),.int .i64 (l[i].v 5),.int .i64 l[i].w]:=rfl
  have hmem:l[i]∈l:=List.getElem_mem a
  have htk:∀s∈l.take (i+1),s∈l.take i∨s=l[i]:=fun s hs=>by
   rw [List.take_succ_eq_append_getElem a,List.mem_append,List.mem_singleton] at hs
   exact hs
  generalize l[i]=x at *
  simp -implicitDefEqProofs [go_sem,a,a1',hVl]
  refine aj 8 (α:={c:Nat // c≤3∧I_ m.val x c}) (fun c=>[(0,.sl 8 false V),(4,.ptr 0 0 0),(8,.ptr 7 0 0),(9,.int .i64 i),(10,.int .i64 (2*(c.1:Int)))])
   (fun c=>[(0,.live 18 [.agg M]),(7,.live 3 [.agg (fC 64)])]) (fun c=>3-c.1) ⟨0,Nat.zero_le _,trivial⟩ [] (by simp) (fun _ _ _ _ h=>h) (by simp) (by simp -implicitDefEqProofs [go_sem,vrr,vrc]) (by simp -implicitDefEqProofs [go_sem,mrr,mrc]) fun ⟨c,hc,hNc⟩=>?_
  by_cases c3:c<3
  ·have hvx:=hg1.i64 (i:=2*c) (by omega)
   have hvy:=hg1.i64 (i:=2*c+1) (by omega)
   have kat:=jZ m.val (x.v (2*c)) (x.v (2*c+1)) hvx hvy (by omega)
   have hqz:=happ _ _ hvx hvy
   have hN1:(Wi 64 (m.val.app (au (x.v (2*c)) (x.v (2*c+1)))).x∧Wi 64 (m.val.app (au (x.v (2*c)) (x.v (2*c+1)))).y)→I_ m.val x (c+1):=fun h=>⟨hNc,h⟩
   have hN0:¬(Wi 64 (m.val.app (au (x.v (2*c)) (x.v (2*c+1)))).x∧Wi 64 (m.val.app (au (x.v (2*c)) (x.v (2*c+1)))).y)→b=false:=fun h=>noB fun hall=>h (by
    have:=yp.2 (hall x hmem)
    rcases (by omega:c=0∨c=1∨c=2) with rfl|rfl|rfl
    ·exact this.1.1.2
    ·exact this.1.2
    ·exact this.2)
   rw [←DF,←DF] at hN1 hN0
   have hmm:vP m.val = .agg (lQ m.val):=rfl
   rw [hmm] at kat kin
   have emr:=oX m.val
   have eml:(lQ m.val).length=18:=rfl
   have emt:(lQ m.val).take 18=lQ m.val:=rfl
   have zax:=Dy (m.val.app (au (x.v (2*c)) (x.v (2*c+1)))).x
   have zay:=Dy (m.val.app (au (x.v (2*c)) (x.v (2*c+1)))).y
   have zqx:=Nat.le_max_left (sz (m.val.app (au (x.v (2*c)) (x.v (2*c+1)))).x) (sz (m.val.app (au (x.v (2*c)) (x.v (2*c+1)))).y)
   have zqy:=Nat.le_max_right (sz (m.val.app (au (x.v (2*c)) (x.v (2*c+1)))).x) (sz (m.val.app (au (x.v (2*c)) (x.v (2*c+1)))).y)
   unfold PQ.sz at hqz
   generalize m.val.app (au (x.v (2*c)) (x.v (2*c+1)))=q at *
   have z64:sz (64:Rat)≤1:=by decide +kernel
   have kx:=qe q.x
   have ky:=qe q.y
   have cx:=dh q.x.abs 64 (by omega) (by omega)
   have cy:=dh q.y.abs 64 (by omega) (by omega)
   have gx:=dG (x:=q.x.abs) (y:=64)
   have gy:=dG (x:=q.y.abs) (y:=64)
   have heq:eA q = .agg (fC q.x++fC q.y):=rfl
   rw [heq] at kat
   simp only [co] at kx ky cx cy
   have d3:(fC q.x++fC q.y).drop 3=fC q.y:=rfl
   have t3:(fC q.x++fC q.y).take 3=fC q.x:=rfl
   have l6:(fC q.x++fC q.y).length=6:=rfl
   have d6:(fC q.x++fC q.y).drop 6=[]:=rfl
   have t6:(fC q.x++fC q.y).take 6=fC q.x++fC q.y:=rfl
   have w1:IntKind.i64.wrap 1=1:=by rw [bO (by omega)]
   have w2:IntKind.i64.wrap 2=2:=by rw [bO (by omega)]
   have w3:IntKind.i64.wrap 3=3:=by rw [bO (by omega)]
   have w4:IntKind.i64.wrap 4=4:=by rw [bO (by omega)]
   have w5:IntKind.i64.wrap 5=5:=by rw [bO (by omega)]
   have w6:IntKind.i64.wrap 6=6:=by rw [bO (by omega)]
   rcases (by omega:c=0∨c=1∨c=2) with rfl|rfl|rfl
   all_goals
    simp only [Nat.mul_zero,Nat.zero_add,Nat.reduceMul,Nat.reduceAdd] at kat
    simp -implicitDefEqProofs [go_sem,w1,w2,w3,w4,w5,w6]
    refine az (by kernel_rfl) ?_
    simp -implicitDefEqProofs [go_sem,w1,w2,w3,w4,w5,w6,mlen,mtk]
    refine aC _ kin (by simp [go_sem,mro]) ?_
    simp -implicitDefEqProofs [go_sem,w1,w2,w3,w4,w5,w6,gi,hcs,a,hVl,a1',eml,emt]
    refine aC _ kat (by simp [go_sem,emr]) ?_
    simp -implicitDefEqProofs [go_sem,l6,t6,d6]
    refine az (by kernel_rfl) ?_
    simp -implicitDefEqProofs [go_sem,l6,t6,d6,d3,t3,lfc,tfc,dfc]
    refine aa kx ?_
    simp -implicitDefEqProofs [go_sem,l6,t6,d6,d3,t3,lfc,tfc,dfc]
    refine aa cx ?_
    by_cases bx:64<q.x.abs
    ·rw [hN0 fun h=>by have:=h.1; grind]
     simp -implicitDefEqProofs [go_sem,gx.2 bx]
     exact Wk.refl _
    have bx0:¬0<bW q.x.abs 64:=fun h=>bx (gx.1 h)
    simp -implicitDefEqProofs [go_sem,bx0,l6,t6,d6,d3,t3,lfc,tfc,dfc]
    refine aa ky ?_
    simp -implicitDefEqProofs [go_sem,l6,t6,d6,d3,t3,lfc,tfc,dfc]
    refine aa cy ?_
    by_cases bY:64<q.y.abs
    ·rw [hN0 fun h=>by have:=h.2; grind]
     simp -implicitDefEqProofs [go_sem,gy.2 bY]
     exact Wk.refl _
    have by0:¬0<bW q.y.abs 64:=fun h=>bY (gy.1 h)
    simp -implicitDefEqProofs [go_sem,by0,w1,w2,w3,w4,w5,w6]
    refine ae ⟨_,by omega,hN1 ⟨by grind,by grind⟩⟩ (by simp only; omega) [] (by simp) (fun _ _ _ _ h=>h) (by simp) (by simp -implicitDefEqProofs [go_sem,vrr,vrc]) (by simp -implicitDefEqProofs [go_sem,mrr,mrc])
  ·have hc3:c=3:=by omega
   subst hc3
   have w7:IntKind.i64.wrap 7=7:=by rw [bO (by omega)]
   simp -implicitDefEqProofs [go_sem,w7,es]
   exact ae ⟨i+1,a,fun s hs=>by
    rcases htk s hs with h|h
    ·exact hPi s h
    ·rw [h]; exact yp.1 hNc⟩ (by simp only; omega) [] (by simp) (fun _ _ _ _ h=>h) (by simp) (by simp -implicitDefEqProofs [go_sem,vrr,vrc]) (by simp -implicitDefEqProofs [go_sem,mrr,mrc])
 ·have a1':¬(i:Int)<l.length:=by omega
  have hii:i=l.length:=by omega
  rw [yes fun s hs=>hPi s (by rw [hii,List.take_length]; exact hs)]
  simp -implicitDefEqProofs [go_sem,a1',hVl]
  exact Wk.refl _
theorem wz {m:MR} {tol:Rat} {l:List Sg} (hm:m.In 6) (h0:0<tol) (hl:l.length≤12) (hO:∀u∈aU l,OkS m.val tol u):(dM l m.val tol).length≤12∧∀p∈dM l m.val tol,p.1.length≤196700∧∀q∈p.1,q.sz≤102:=by
 have hc:=nV (P:=fun _=>True) (l:=l) fun _ _ _ _=>trivial
 have hn:(aU l).length≤l.length:=by
  have h1:=hc.num
  have e:aU l=(cC l).done++(if (cC l).op then [(cC l).cur] else []):=rfl
  rw [e,List.length_append]
  cases hop:(cC l).op
  ·rw [hop] at h1; simp only [Bool.false_eq_true,if_false,List.length_nil] at *; omega
  ·rw [hop] at h1; simp only [if_true,List.length_cons,List.length_nil] at *; omega
 refine ⟨by unfold dM; rw [List.length_map]; omega,fun p hp=>?_⟩
 obtain ⟨u,hu,rfl⟩:=List.mem_map.1 hp
 have ho:=hO u hu
 obtain ⟨t1,t2⟩:=dP h0 ho.ok
 have hcl:=pW (dE m.val tol u) u.closed
 have hr:(dE m.val tol u).length=1+(bV m.val tol u.f u.l).length:=by unfold dE; rw [List.length_cons]; omega
 have hul:=ho.len
 refine ⟨by show (bz (dE m.val tol u) u.closed).length≤_; omega,fun q hq=>?_⟩
 have:=pX _ _ q hq
 unfold dE at this
 rcases List.mem_cons.1 this with rfl|h
 ·have:=nL hm (by omega) ho.f1; omega
 ·exact t2 q h
theorem mL {m:MR} {tol:RQ} {l:List Sg} (hl:l.length≤9223372036854775807) (h:l.length≤12∧m.In 6∧tol.In 1∧(0<tol.val→bL l→1 / 16≤tol.val∧∀s∈l,Ps m.val s)) :
 ab Tryz.prog 16 [il l,m.av,tol.av] (si (dL l m.val tol.val))∧(bL l→0<tol.val→(dM l m.val tol.val).length≤12∧∀p∈dM l m.val tol.val,p.1.length≤196700∧∀q∈p.1,q.sz≤102):=by
 obtain ⟨h1,h2,h3,h4⟩:=h
 have hmz:sz m.val.a≤6∧sz m.val.b≤6∧sz m.val.c≤6∧sz m.val.d≤6∧sz m.val.e≤6∧sz m.val.f≤6:=⟨h2.a.sz,h2.b.sz,h2.c.sz,h2.d.sz,h2.e.sz,h2.f.sz⟩
 refine ⟨oH l m tol hl h2 h3.mono fun hG h0=>?_,fun hG h0=>?_⟩
 ·obtain ⟨t1,t2⟩:=h4 h0 hG
  exact ⟨h1,fun i b=>(jx hmz t1 h1 hG t2 i).1 b⟩
 ·obtain ⟨t1,t2⟩:=h4 h0 hG
  have:=(jx hmz t1 h1 hG t2 l.length).2
  rw [List.take_length] at this
  exact wz h2 h0 h1 this
open Go.ChangeShapes Go.WideShapes Go.ChangeAt Go.RowKit
section
variable {H:Type} {enc:TypeId×Value→H} {w:World}
def qJ (l:List AV):Prop:=∃n:Int,l=[.int .i64 n]
theorem E0:lD enc Tryz.prog w 82 fun l=>∃s:Sg,l=s.cs :=
 (C0 [(3,1,qJ),(80,6,DP qJ 6),(2,1,qJ)] (by kernel_rfl) (by kernel_rfl) (by kernel_rfl) (fun f hf=>by
  simp only [List.mem_cons,List.not_mem_nil,or_false] at hf
  rcases hf with rfl|rfl|rfl
  ·exact (nD (k := .i64) (by kernel_rfl)).mono fun l ⟨n,h,_⟩=>⟨n,h⟩
  ·exact EY (e:=2) (k:=1) (by kernel_rfl) (by kernel_rfl) ((nD (k := .i64) (by kernel_rfl)).mono fun l ⟨n,h,_⟩=>⟨n,h⟩)
  ·exact (nD (k := .i64) (by kernel_rfl)).mono fun l ⟨n,h,_⟩=>⟨n,h⟩)).mono fun l ⟨a,_,e1,⟨k,h1⟩,b,_,e2,⟨a0,_,g0,⟨n0,i0⟩,a1,_,g1,⟨n1,i1⟩,a2,_,g2,⟨n2,i2⟩,a3,_,g3,⟨n3,i3⟩,a4,_,g4,⟨n4,i4⟩,a5,_,g5,⟨n5,i5⟩,g6⟩,c,_,e3,⟨w,h3⟩,e4⟩=>⟨⟨k,fun i=>[n0,n1,n2,n3,n4,n5].getD i 0,w⟩,by rw [e1,e2,e3,e4,h1,h3,g0,g1,g2,g3,g4,g5,g6,i0,i1,i2,i3,i4,i5]; rfl⟩
theorem ur:lD enc Tryz.prog w 22 fun l=>∃v:List Sg,v.length≤9223372036854775807∧l=[il v] :=
 (pP (e:=82) (sz:=8) (by kernel_rfl) (by kernel_rfl) (by omega) E0).mono fun l ⟨L,h1,h2,h3⟩=>by
  have key:∃v:List Sg,L=v.map Sg.av:=by
   clear h1 h2
   induction L with
   | nil=>exact ⟨[],rfl⟩
   | cons a L ih =>
    obtain ⟨v,rfl⟩:=ih fun x hx=>h3 x (by simp [hx])
    obtain ⟨l',⟨s,rfl⟩,rfl⟩:=h3 a (by simp)
    exact ⟨s::v,rfl⟩
  obtain ⟨v,rfl⟩:=key
  exact ⟨v,by simpa using h2,h1⟩
end
structure Sub.Near (u:Sub):Prop where
 x : -2147483648<u.x∧u.x<2147483648
 y : -2147483648<u.y∧u.y<2147483648
end Go.Proofs.YtdnmfaljidjijaaGreat
