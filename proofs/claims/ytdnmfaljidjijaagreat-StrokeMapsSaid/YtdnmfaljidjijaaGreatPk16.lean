import Derived.Test.YtdnmfaljidjijaaGreatPk05
import Derived.Test.YtdnmfaljidjijaaGreatPk06
import Derived.Test.YtdnmfaljidjijaaGreatPk08
import Derived.Test.YtdnmfaljidjijaaGreatPk10
import Derived.Test.YtdnmfaljidjijaaGreatPk11
import Derived.Test.YtdnmfaljidjijaaGreatPk12
import Derived.Test.YtdnmfaljidjijaaGreatPk13
import Derived.Test.YtdnmfaljidjijaaGreatProg
import Derived.ProofKit
import Derived.Carry
import Derived.Test.YtdnmfaljidjijaaGreatRows
namespace Go.Proofs.YtdnmfaljidjijaaGreat
set_option maxHeartbeats 16000000
open Go Go.Proofs
@[go_sem] theorem Uh:az Tryz.prog 47=some ⟨18,336,(.struct [(0,45),(3,45),(6,45),(9,45),(12,45),(15,45)]),[(.bool false),(.sl 0 true []),(.sl 0 true []),(.bool false),(.sl 0 true []),(.sl 0 true []),(.bool false),(.sl 0 true []),(.sl 0 true []),(.bool false),(.sl 0 true []),(.sl 0 true []),(.bool false),(.sl 0 true []),(.sl 0 true []),(.bool false),(.sl 0 true []),(.sl 0 true [])]⟩:=by kernel_rfl
@[go_sem] theorem Um:az Tryz.prog 65=some ⟨1,24,(.slice 156),[(.sl 0 true [])]⟩:=by kernel_rfl
@[go_sem] theorem S5:az Tryz.prog 156=some ⟨12,224,(.struct [(0,118),(6,118)]),[(.bool false),(.sl 0 true []),(.sl 0 true []),(.bool false),(.sl 0 true []),(.sl 0 true []),(.bool false),(.sl 0 true []),(.sl 0 true []),(.bool false),(.sl 0 true []),(.sl 0 true [])]⟩:=by kernel_rfl
open Go.ChangeShapes Go.WideShapes Go.ChangeAt Go.RowKit
set_option linter.unusedSimpArgs false
set_option linter.unusedVariables false
theorem F5 {P:Program} {W:World} {r:Reach} {b:Nat} {t e:TypeId} {v:Value} (ht:P.underlying t=some (.slice e)) (h:Value.okWide P W r b t v):v.cells = #[v]:=by
 unfold Value.okWide at h
 rw [ht] at h
 cases v<;>first|rfl|(simp [Cell.okWide,Cell.ok,ht] at h; done)
section
variable {H:Type} {enc:TypeId×Value→H} {P:Program} {w:World}
end
section
variable {H:Type} {enc:TypeId×Value→H} {w:World}
theorem Ib:oe enc Tryz.prog w 92 fun l=>∃v:List (List PR),v.length≤9223372036854775807∧(∀p∈v,p.length≤9223372036854775807∧∀q∈p,q.Lm)∧l=[.sl 1 false (v.map fK)] :=
 (ni (R:=fun a=>∃v:List PR,(v.length≤9223372036854775807∧∀p∈v,p.Lm)∧a=fK v) (fun l ⟨v,h1,h2,h3⟩=>⟨_,h3,v,⟨h1,h2⟩,rfl⟩) (e:=53) (by kernel_rfl) (by kernel_rfl) D2).mono fun l ⟨L,h1,h2,h3⟩=>by
  have key:∃v:List (List PR),(∀p∈v,p.length≤9223372036854775807∧∀q∈p,q.Lm)∧L=v.map fK:=by
   clear h1 h2
   induction L with
   | nil=>exact ⟨[],by simp,rfl⟩
   | cons a L ih =>
    obtain ⟨v,k1,rfl⟩:=ih fun x hx=>h3 x (by simp [hx])
    obtain ⟨p,g1,rfl⟩:=h3 a (by simp)
    refine ⟨p::v,fun x hx=>?_,rfl⟩
    rcases List.mem_cons.1 hx with rfl|hx
    ·exact g1
    ·exact k1 x hx
  obtain ⟨v,k1,rfl⟩:=key
  exact ⟨v,by simpa using h2,k1,h1⟩
end
set_option maxRecDepth 20000
def BN (m:MQ):List AV:=fC m.a++(fC m.b++(fC m.c++(fC m.d++(fC m.e++fC m.f))))
def Jf (m:MQ):AV := .agg (BN m)
theorem Iz (m:MQ):roL (BN m):=by unfold BN; simp -implicitDefEqProofs [go_sem,aF]
theorem HW (m:MR) (hm:m.In 1000):ag Tryz.prog 18 [m.av] (Jf m.val):=by
 have k0:=finr m.a hm.a.mono
 have k1:=finr m.b hm.b.mono
 have k2:=finr m.c hm.c.mono
 have k3:=finr m.d hm.d.mono
 have k4:=finr m.e hm.e.mono
 have k5:=finr m.f hm.f.mono
 have e:Jf m.val = .agg (fC m.a.val++(fC m.b.val++(fC m.c.val++(fC m.d.val++(fC m.e.val++fC m.f.val))))):=rfl
 rw [e]
 generalize m.a.val=r0 at *
 generalize m.b.val=r1 at *
 generalize m.c.val=r2 at *
 generalize m.d.val=r3 at *
 generalize m.e.val=r4 at *
 generalize m.f.val=r5 at *
 simp only [bc] at *
 unfold RQ.av fC qA at *
 refine Pg Tryz.func18 rfl [.cell 2 47] rfl (by simp -implicitDefEqProofs [go_sem,aF]) ?_
 unfold MR.av MR.cs
 simp -implicitDefEqProofs [go_sem]
 refine aa k0 ?_
 simp -implicitDefEqProofs [go_sem]
 refine aa k1 ?_
 simp -implicitDefEqProofs [go_sem]
 refine aa k2 ?_
 simp -implicitDefEqProofs [go_sem]
 refine aa k3 ?_
 simp -implicitDefEqProofs [go_sem]
 refine aa k4 ?_
 simp -implicitDefEqProofs [go_sem]
 refine aa k5 ?_
 simp -implicitDefEqProofs [go_sem,aL]
theorem Bd (a x c y e:Rat) {n:Nat} (hn:n≤1073741824) (ha:sz a≤n) (hx:sz x≤n) (hc:sz c≤n) (hy:sz y≤n) (he:sz e≤n):ag Tryz.prog 201 [fA a,fA x,fA c,fA y,fA e] (fA (a*x+c*y+e)):=by
 have z1:=aJ a x
 have z2:=aJ c y
 have z3:=sz_add (a*x) (c*y)
 have k1:=aN a x (by omega) (by omega)
 have k2:=aN c y (by omega) (by omega)
 have k3:=fH (a*x) (c*y) (by omega) (by omega)
 have k4:=fH (a*x+c*y) e (by omega) (by omega)
 generalize a*x+c*y+e=r4 at *
 generalize a*x+c*y=r3 at *
 generalize a*x=r1 at *
 generalize c*y=r2 at *
 simp only [bc] at *
 refine Pg Tryz.func201 rfl [.cell 10 45] rfl (by simp -implicitDefEqProofs [go_sem]) ?_
 simp -implicitDefEqProofs [go_sem]
 refine aa k1 ?_
 simp -implicitDefEqProofs [go_sem]
 refine aa k2 ?_
 simp -implicitDefEqProofs [go_sem]
 refine aa k3 ?_
 simp -implicitDefEqProofs [go_sem]
 refine aa k4 ?_
 simp -implicitDefEqProofs [go_sem,aL]
theorem uY (m:MQ) (hm:sz m.a≤1000∧sz m.b≤1000∧sz m.c≤1000∧sz m.d≤1000):ag Tryz.prog 49 [Jf m] (fA m.det):=by
 obtain ⟨h1,h2,h3,h4⟩:=hm
 have z1:=aJ m.a m.d
 have z2:=aJ m.b m.c
 have k1:=aN m.a m.d (by omega) (by omega)
 have k2:=aN m.b m.c (by omega) (by omega)
 have k3:=eT (m.a*m.d) (m.b*m.c) (by omega) (by omega)
 unfold MQ.det Jf BN
 generalize m.a*m.d-m.b*m.c=r3 at *
 generalize m.a*m.d=r1 at *
 generalize m.b*m.c=r2 at *
 simp only [bc] at *
 unfold fC qA at *
 refine Pg Tryz.func49 rfl [.cell 2 45] rfl (by simp -implicitDefEqProofs [go_sem]) ?_
 simp -implicitDefEqProofs [go_sem]
 refine aa k1 ?_
 simp -implicitDefEqProofs [go_sem]
 refine aa k2 ?_
 simp -implicitDefEqProofs [go_sem]
 refine aa k3 ?_
 simp -implicitDefEqProofs [go_sem,aL]
theorem EO (m:MQ) (p:PQ) {n:Nat} (hn:n≤1073741824) (hm:sz m.a≤n∧sz m.b≤n∧sz m.c≤n∧sz m.d≤n∧sz m.e≤n∧sz m.f≤n) (hp:p.sz≤n):ag Tryz.prog 121 [Jf m,eA p] (eA (m.app p)):=by
 obtain ⟨h1,h2,h3,h4,h5,h6⟩:=hm
 obtain ⟨p1,p2⟩:=eg p hp
 have k1:=Bd m.a p.x m.c p.y m.e hn h1 p1 h3 p2 h5
 have k2:=Bd m.b p.x m.d p.y m.f hn h2 p1 h4 p2 h6
 have e:eA (m.app p) = .agg (fC (m.a*p.x+m.c*p.y+m.e)++fC (m.b*p.x+m.d*p.y+m.f)):=rfl
 have e2:eA p = .agg (fC p.x++fC p.y):=rfl
 rw [e,e2]
 unfold Jf BN
 generalize m.a*p.x+m.c*p.y+m.e=r1 at *
 generalize m.b*p.x+m.d*p.y+m.f=r2 at *
 simp only [bc] at *
 unfold fC qA at *
 refine Pg Tryz.func121 rfl [.cell 4 118] rfl (by simp -implicitDefEqProofs [go_sem]) ?_
 simp -implicitDefEqProofs [go_sem]
 refine aa k1 ?_
 simp -implicitDefEqProofs [go_sem]
 refine aa k2 ?_
 simp -implicitDefEqProofs [go_sem,aL]
theorem Wk.slmap {α:Type} {g h:α→AV} (w:∀x,Wk (g x) (h x)) (ga:∀x,(g x).isAgg=true→(h x).isAgg=true) (sz:Nat) (l:List α):Wk (.sl sz false (l.map g)) (.sl sz false (l.map h)):=by
 refine ⟨fun c v hv=>?_,fun hr=>?_⟩
 ·simp only [Rv,List.length_map] at hv ⊢
  obtain ⟨a,cap,rfl,h1,h2,h3⟩:=hv
  refine ⟨a,cap,rfl,h1,h2,?_⟩
  rcases h3 with h3|⟨b,o,h4,h5,h6,h7⟩
  ·left
   simpa using h3
  ·right
   refine ⟨b,o,h4,h5,h6,?_⟩
   clear h4 h5 h6 h1 h2
   induction l generalizing o with
   | nil=>trivial
   | cons x l ih =>
    simp only [List.map_cons,Re] at h7 ⊢
    obtain ⟨⟨v,q1,q2,q3,q4⟩,q5⟩:=h7
    exact ⟨⟨v,(w x).1 c v q1,q2,q3.imp (ga x) id,q4⟩,ih _ q5⟩
 ·simp only [ro] at hr ⊢
  refine gu.2 fun a ha=>?_
  obtain ⟨x,hx,rfl⟩:=List.mem_map.1 ha
  exact (w x).2 (gu.1 hr _ (List.mem_map_of_mem hx))
theorem xf (L:List (List PQ)) (m:MQ) (hL:L.length≤1024) (hl:∀p∈L,p.length≤1024) (hp:∀p∈L,∀q∈p,q.sz≤1000) (hm:sz m.a≤1000∧sz m.b≤1000∧sz m.c≤1000∧sz m.d≤1000∧sz m.e≤1000∧sz m.f≤1000) :
 ag Tryz.prog 51 [yp L,Jf m] (yp (L.map (cW m))):=by
 have k1:=uY m ⟨hm.1,hm.2.1,hm.2.2.1,hm.2.2.2.1⟩
 have k2:=aE m.det
 have sl:=iy (x:=m.det)
 have kap:=fun (q:PQ) (hq:q.sz≤1000)=>EO m q (n:=1000) (by omega) hm hq
 have mro:=Iz m
 have mlen:(BN m).length=18:=rfl
 have mtk:(BN m).take 18=BN m:=rfl
 have hav:Jf m = .agg (BN m):=rfl
 rw [hav] at k1 ⊢
 simp only [hav] at kap
 have hLr:=jL L
 have gL:∀i (h:i<L.length),bU (L.map eL) (i:Int) = .sl 6 false (L[i].map eA):=fun i h=>dM h
 obtain ⟨E,hE⟩:∃E:List PQ→AV,E=fun l=>slv 6 (l.map eA):=⟨_,rfl⟩
 have hEr:∀l,ro (E l):=fun l=>by
  rw [hE]
  simp only [slv]
  split
  ·simp only [ro,roL]
  ·simp only [ro]; exact cY _
 obtain ⟨LM,hLM⟩:∃LM,LM=(L.map (cW m)).map E:=⟨_,rfl⟩
 have hLMl:LM.length=L.length:=by rw [hLM]; simp
 have hLMr:roL LM:=by rw [hLM]; exact dq hEr
 have hLMg:∀i (h:i<L.length),LM[i]'(by omega)=E (cW m L[i]):=fun i h=>by subst hLM; rw [List.getElem_map,List.getElem_map]
 have hLPl:(L.map eL).length=L.length:=by simp
 have hend:Wk (.sl 1 false LM) (yp (L.map (cW m))):=by
  rw [hLM,hE]
  refine Wk.slmap (fun l=>Wk.slv 6 _) (fun l h=>?_) 1 _
  simp only [slv] at h
  split at h<;>simp [AV.isAgg] at h
 refine ag.weaken ?_ hend
 refine ag.of_ca (by simp only [ro]; exact hLMr) (Cg Tryz.func51 rfl [.tmp 4] rfl ?_)
 unfold yp
 generalize BN m=M at *
 generalize hsg:aM m.det=sg0 at *
 generalize hdd:m.det=D at *
 simp only [bc] at k1 k2
 generalize L.map eL=LP at *
 simp -implicitDefEqProofs [go_sem,mlen,mtk]
 refine ap 2 (α:={i:Nat // i≤L.length}) (fun i=>[(0,.sl 1 false LP),(3,.ptr 0 0 0),(5,di 1 1 (LM.take i.1)),(6,.int .i64 i.1)])
  (fun i=>(0,.live 18 [.agg M])::cR 1 1 (LM.take i.1)) (fun i=>L.length-i.1) ⟨0,Nat.zero_le _⟩ [] (by simp) (fun _ _ _ _ h=>h) (by simp) (by simp -implicitDefEqProofs [go_sem,di,renL_ro (nm []) _ hLr,cloL_ro (n:=2) _ hLr]) (by simp -implicitDefEqProofs [go_sem,cR,renL_ro (nm []) _ mro,cloL_ro (n:=2) _ mro]) fun ⟨i,hi⟩=>?_
 obtain ⟨O,hO⟩:∃O,O=LM.take i:=⟨_,rfl⟩
 have hOr:roL O:=by rw [hO]; exact bV hLMr
 have hOl:O.length=i:=by rw [hO,List.length_take]; omega
 by_cases a:i<L.length
 ·have a1:(i:Int)<L.length:=by omega
  have gi:=gL i a
  have hli:=hl _ (List.getElem_mem a)
  have hpi:=hp _ (List.getElem_mem a)
  have hO1:LM.take (i+1)=O++[E (cW m L[i])]:=by rw [List.take_succ_eq_append_getElem (by omega),hLMg i a,hO]
  generalize L[i]=p at *
  have oc2:=cloL_ro (n:=3) _ hOr
  have mrc3:=cloL_ro (n:=3) _ mro
  have mrr:=renL_ro (nm []) _ mro
  obtain ⟨VP,hVP⟩:∃VP,VP=(cW m p).map eA:=⟨_,rfl⟩
  have hVPl:VP.length=p.length:=by rw [hVP,List.length_map,kz]
  have hVPr:roL VP:=by rw [hVP]; exact cY _
  have hVPg:∀k (h:k<p.length),VP[k]'(by omega) = .agg (eC (m.app (p[if D<0∧0<k then p.length-k else k]'(by split<;>omega)))):=fun k h=>by
   subst hVP
   rw [List.getElem_map,Ah m p k h]
   simp only [hdd]
   rfl
  have gp:∀k (h:k<p.length),bU (p.map eA) (k:Int) = .agg (eC p[k]):=fun k h=>f_ h
  have hPl:(p.map eA).length=p.length:=by simp
  have hPr:=cY p
  generalize p.map eA=PE at *
  simp -implicitDefEqProofs [go_sem,a1,a,gi,←hO,hLPl]
  refine ap 3 (α:={k:Nat // k≤p.length}) (fun k=>[(0,.sl 1 false LP),(3,.ptr 0 0 0),(5,di 1 1 O),(6,.int .i64 i),(7,di 6 2 (VP.take k.1)),(8,.int .i64 k.1)])
   (fun k=>(0,.live 18 [.agg M])::(cR 1 1 O++cR 6 2 (VP.take k.1))) (fun k=>p.length-k.1) ⟨0,Nat.zero_le _⟩ [] (by simp) (fun _ _ _ _ h=>h) (by simp) (by simp -implicitDefEqProofs [go_sem,og,renL_ro (nm []) _ hLr,cloL_ro (n:=3) _ hLr]) (by simp -implicitDefEqProofs [go_sem,mrr,mrc3,renL_ro (nm []) _ hOr,oc2]) fun ⟨k,hk⟩=>?_
  obtain ⟨Q,hQ⟩:∃Q,Q=VP.take k:=⟨_,rfl⟩
  have hQr:roL Q:=by rw [hQ]; exact bV hVPr
  have hQl:Q.length=k:=by rw [hQ,List.length_take]; omega
  simp only [←hQ]
  by_cases b:k<p.length
  ·have b1:(k:Int)<p.length:=by omega
   obtain ⟨j,hj⟩:∃j,j=if D<0∧0<k then p.length-k else k:=⟨_,rfl⟩
   have hjl:j<p.length:=by rw [hj]; split<;>omega
   have gk:=gp j hjl
   have kx:=kap p[j] (hpi _ (List.getElem_mem hjl))
   have hQ1:VP.take (k+1)=Q++[.agg (eC (m.app p[j]))]:=by
    rw [List.take_succ_eq_append_getElem (by omega),hVPg k b,hQ]
    simp only [←hj]
   have es:=wS k (by omega)
   generalize m.app p[j]=y at *
   generalize p[j]=x at *
   simp only [aP] at kx
   simp -implicitDefEqProofs [go_sem,b1,a1,a,gi,hPl,hLPl,mlen,mtk]
   refine ah _ k1 (by simp [go_sem,mro]) ?_
   simp -implicitDefEqProofs [go_sem]
   refine ac k2 ?_
   have hc0:(sg0<0∧0<k∧j=p.length-k)∨(sg0<0∧¬0<k∧j=k)∨(¬sg0<0∧j=k):=by
    by_cases d:sg0<0
    ·by_cases k0:0<k
     ·exact .inl ⟨d,k0,by rw [hj,if_pos ⟨sl.1 d,k0⟩]⟩
     ·exact .inr (.inl ⟨d,k0,by rw [hj,if_neg fun h=>k0 h.2]⟩)
    ·exact .inr (.inr ⟨d,by rw [hj,if_neg fun h=>d (sl.2 h.1)]⟩)
   clear hj
   rcases hc0 with ⟨d,k0,hj⟩|⟨d,k0,hj⟩|⟨d,hj⟩
   have k1':(0:Int)<k:=by omega
   have wj:IntKind.i64.wrap ((p.length:Int)-k)=(j:Int):=by rw [bS (by omega)]; omega
   simp -implicitDefEqProofs [go_sem,d,k0,a1,a,gi,hPl,hLPl,wj,mlen,mtk,gk,hjl]
   rotate_left
   subst j
   simp -implicitDefEqProofs [go_sem,d,k0,a1,a,gi,hPl,hLPl,mlen,mtk,gk,b]
   rotate_left
   subst j
   simp -implicitDefEqProofs [go_sem,d,a1,a,gi,hPl,hLPl,mlen,mtk,gk,b]
   rotate_left
   all_goals
    refine ao _ kx (by simp [go_sem,mro]) ?_
    simp -implicitDefEqProofs [go_sem]
    refine aI (.inl rfl) (by omega) (by omega) (by simp -implicitDefEqProofs [go_sem]) (by simp [hQl]<;>omega) (by simp -implicitDefEqProofs [go_sem]) ?_
    simp -implicitDefEqProofs [go_sem,es]
    have hQr1:roL (Q++[.agg (eC y)]):=by rw [←hQ1]; exact bV hVPr
    have r1:=renL_ro (nm [(2,14)]) _ hQr1
    have r2:=cloL_ro (n:=3) _ hQr1
    exact ae ⟨k+1,b⟩ (by simp only; omega) [(2,14)] (by simp) (by simp only [hQ1,bP]; by_cases h:O=[]<;>simp [cR,h,nm]) (by simp) (by simp only [hQ1,eJ]; simp -implicitDefEqProofs [go_sem,hQl,es,renL_ro (nm [(2,14)]) _ hLr,cloL_ro (n:=3) _ hLr]) (by
     simp only [hQ1,bP]
     by_cases h0:O=[]<;>simp -implicitDefEqProofs [go_sem,h0,cR,renL_ro (nm [(2,14)]) _ mro,mrc3,renL_ro (nm [(2,14)]) _ hOr,oc2,r1,r2])
  ·have hkk:k=p.length:=by omega
   have b1:¬(k:Int)<p.length:=by omega
   have hQe:Q=VP:=by rw [hQ,List.take_of_length_le (by omega)]
   have w1:=wS i (by omega)
   have hOr1:roL (O++[E (cW m p)]):=by rw [←hO1]; exact bV hLMr
   have hEE:E (cW m p)=slv 6 VP:=by rw [hE,hVP]
   have mrc:=cloL_ro (n:=2) _ mro
   subst hQe
   simp -implicitDefEqProofs [go_sem,b1,a1,a,gi,hPl,hLPl]
   by_cases hQ0:Q=[]
   ·rw [hEE,hQ0] at hO1 hOr1
    have hsl:slv 6 [] = .sl 0 true []:=rfl
    rw [hsl] at hO1 hOr1
    rw [hQ0]
    simp -implicitDefEqProofs [go_sem]
    refine aI (.inl rfl) (by omega) (by omega) (by simp -implicitDefEqProofs [go_sem]) (by simp [hOl]<;>omega) (by simp -implicitDefEqProofs [go_sem]) ?_
    simp -implicitDefEqProofs [go_sem,w1]
    have r1:=renL_ro (nm [(1,4)]) _ hOr1
    have r2:=cloL_ro (n:=2) _ hOr1
    exact ae ⟨i+1,a⟩ (by simp only; omega) [(1,4)] (by simp) (by simp only [hO1,bP]; simp [nm]) (by simp) (by simp only [hO1,eJ]; simp -implicitDefEqProofs [go_sem,hOl,w1,renL_ro (nm [(1,4)]) _ hLr,cloL_ro (n:=2) _ hLr]) (by
     simp only [hO1,bP]
     simp -implicitDefEqProofs [go_sem,renL_ro (nm [(1,4)]) _ mro,mrc,r1,r2])
   ·have av:di 6 2 Q = .own 6 2 0 p.length:=by rw [aV hQ0,hQl,hkk]
    have hsl:slv 6 Q = .sl 6 false Q:=by unfold slv; rw [if_neg hQ0]
    rw [hEE,hsl] at hO1 hOr1
    simp -implicitDefEqProofs [go_sem,av]
    refine aI (.inl rfl) (by omega) (by omega) (by simp -implicitDefEqProofs [go_sem]) (by simp [hOl]<;>omega) (by simp -implicitDefEqProofs [go_sem]) ?_
    simp -implicitDefEqProofs [go_sem,w1]
    have hfo:=oE (g:=2) (l:=Q) hOr
    have r1:=renL_ro (nm [(1,4)]) _ hOr1
    have r2:=cloL_ro (n:=2) _ hOr1
    refine mC 2 6 Q (by by_cases h:O=[]<;>simp -implicitDefEqProofs [go_sem,kill,h,hQ0]) ⟨i+1,a⟩ (by simp only; omega) [(1,4)] (by simp) (by simp only [hO1,bP]; simp [nm]) (by simp) ?_ ?_
    ·simp only [hO1,eJ]
     simp -implicitDefEqProofs [go_sem,hOl,w1,renL_ro (nm [(1,4)]) _ hLr,cloL_ro (n:=2) _ hLr]
    ·simp only [hO1,bP]
     simp -implicitDefEqProofs [go_sem,hfo,hQl,hkk,renL_ro (nm [(1,4)]) _ mro,mrc,r1,r2]
     rw [←hkk,←hQl,List.take_length]
 ·have hii:i=L.length:=by omega
  have a1:¬(i:Int)<L.length:=by omega
  have hOe:O=LM:=by rw [hO,List.take_of_length_le (by omega)]
  simp -implicitDefEqProofs [go_sem,a1,←hO,hLPl]
  subst hOe
  by_cases h:O=[]
  ·subst h
   simp -implicitDefEqProofs [go_sem]
   exact Wk.nil 0 1 true
  ·simp -implicitDefEqProofs [go_sem,aV h,h,hOr]
   exact Wk.refl _
def nE (e:PQ×PQ):AV := .agg (eC e.1++eC e.2)
theorem Kc (e:PQ×PQ):ro (nE e):=by unfold nE; simp -implicitDefEqProofs [go_sem,aF]
def uk (E:List (PQ×PQ)):AV := .sl 12 false (E.map nE)
theorem mP (E:List (PQ×PQ)):roL (E.map nE):=dq Kc
theorem Ed (E:List (PQ×PQ)):ro (uk E):=by unfold uk; simp only [ro]; exact mP E
theorem BT (l:List PQ) (hl:l.length≤1048576) (hs:∀p∈l,p.sz≤4294967296):ag Tryz.prog 82 [eL l] (uk (kD l)):=by
 refine ag.of_ca (Ed _) (Cz Tryz.func82 rfl [.tmp 2] rfl ?_)
 obtain ⟨G,hG⟩:∃G:Nat→List AV,G=fun k=>(nj l k).map nE:=⟨_,rfl⟩
 have hGr:∀k,roL (G k):=fun k=>by rw [hG]; exact mP _
 have hGe:uk (kD l) = .sl 12 false (G l.length):=by rw [hG]; rfl
 have hG0:G 0=[]:=by rw [hG]; simp [nj]
 have hGl:∀k,(G k).length≤k:=fun k=>by rw [hG,List.length_map]; exact mO l k
 have hGs:∀k,G (k+1)=G k++(if (l.getD k ⟨0,0⟩).y=(l.getD ((k+1)%l.length) ⟨0,0⟩).y then [] else [nE (l.getD k ⟨0,0⟩,l.getD ((k+1)%l.length) ⟨0,0⟩)]):=fun k=>by
  rw [hG]
  simp only
  rw [tI,List.map_append]
  split<;>rfl
 have hqg:∀k (h:k<l.length),l.getD k ⟨0,0⟩=l[k]:=fun k h=>by rw [List.getD_eq_getElem?_getD,List.getElem?_eq_getElem h]; rfl
 have gP:∀k (h:k<l.length),bU (l.map eA) (k:Int) = .agg (eC l[k]):=fun k h=>f_ h
 have hPl:(l.map eA).length=l.length:=by simp
 have hr:=cY l
 rw [hGe]
 unfold eL
 generalize l.map eA=U at *
 simp -implicitDefEqProofs [go_sem]
 refine ap 2 (α:={k:Nat // k≤l.length}) (fun k=>[(0,.sl 6 false U),(3,di 12 1 (G k.1)),(4,.int .i64 k.1)]) (fun k=>cR 12 1 (G k.1)) (fun k=>l.length-k.1) ⟨0,Nat.zero_le _⟩ [] (by simp) (fun _ _ _ _ h=>h) (by simp) (by simp -implicitDefEqProofs [go_sem,hG0,renL_ro (nm []) _ hr,cloL_ro (n:=2) _ hr]) (by simp -implicitDefEqProofs [go_sem,hG0]) fun ⟨k,hk⟩=>?_
 have hFr:=hGr k
 have hFl:=hGl k
 by_cases b:k<l.length
 ·have b1:(k:Int)<l.length:=by omega
  have hmod:(k+1)%l.length<l.length:=Nat.mod_lt _ (by omega)
  have g1:=gP k b
  have g2:=gP _ hmod
  have e1:=wT k (by omega)
  have e2:Int.tmod ((k:Int)+1) (l.length:Int)=((k+1)%l.length:Nat):=by rw [Int.tmod_eq_emod_of_nonneg (by omega)]; rfl
  have hsucc:=hGs k
  rw [hqg k b,hqg _ hmod] at hsucc
  have hx:=hs _ (List.getElem_mem b)
  have hy:=hs _ (List.getElem_mem hmod)
  have hFr1:=hGr (k+1)
  have hp0:¬l.length=0:=by omega
  generalize l[(k+1)%l.length]=y at *
  generalize l[k]=x at *
  generalize (k+1)%l.length=j at *
  obtain ⟨x1,x2⟩:=eg x hx
  obtain ⟨y1,y2⟩:=eg y hy
  have kc:=bC x.y y.y (by omega) (by omega)
  have hc0:bJ x.y y.y=0↔x.y=y.y:=rq
  have ex:eC x=fC x.x++fC x.y:=rfl
  have ey:eC y=fC y.x++fC y.y:=rfl
  have ee:nE (x,y) = .agg (eC x++eC y):=rfl
  rw [ee] at hsucc
  generalize bJ x.y y.y=cc at *
  have dx:(List.drop 3 (eC x)).take 3=fC x.y:=rfl
  have dy:(List.drop 3 (eC y)).take 3=fC y.y:=rfl
  simp only [bc] at kc
  simp -implicitDefEqProofs [go_sem,b1,b,hPl]
  refine vu (by kernel_rfl) ?_
  simp -implicitDefEqProofs [go_sem,b1,b,hp0,hPl,g1,g2,e1,e2,hmod,dx,dy]
  refine ac kc ?_
  by_cases hyy:x.y=y.y
  ·have hcc:=hc0.2 hyy
   rw [if_pos hyy,List.append_nil] at hsucc
   simp -implicitDefEqProofs [go_sem,hcc,e1]
   exact ae ⟨k+1,b⟩ (by simp only; omega) [] (by simp) (fun _ _ _ _ h=>h) (by simp) (by simp -implicitDefEqProofs [go_sem,hsucc,renL_ro (nm []) _ hr,cloL_ro (n:=2) _ hr]) (by by_cases h0:G k=[]<;>simp -implicitDefEqProofs [go_sem,hsucc,h0,cR,renL_ro (nm []) _ hFr,cloL_ro (n:=2) _ hFr])
  ·have hcc:¬cc=0:=fun h=>hyy (hc0.1 h)
   rw [if_neg hyy] at hsucc
   have dd:List.drop 12 (eC x++[AV.bool false,.sl 0 true [],.sl 0 true [],.bool false,.sl 0 true [],.sl 0 true []])=[]:=rfl
   simp -implicitDefEqProofs [go_sem,hcc,dd]
   refine aI (.inl rfl) (by omega) (by omega) (by simp -implicitDefEqProofs [go_sem,aF]) (by simp<;>omega) (fun h=>by simp -implicitDefEqProofs [go_sem,aC h]) ?_
   simp -implicitDefEqProofs [go_sem,e1]
   rw [hsucc] at hFr1
   have r1:=renL_ro (nm [(1,19)]) _ hFr1
   have r2:=cloL_ro (n:=2) _ hFr1
   exact ae ⟨k+1,b⟩ (by simp only; omega) [(1,19)] (by simp) (by simp only [hsucc,bP]; simp [nm]) (by simp) (by simp only [hsucc,eJ]; simp -implicitDefEqProofs [go_sem,renL_ro (nm [(1,19)]) _ hr,cloL_ro (n:=2) _ hr]) (by
    simp only [hsucc,bP]
    simp -implicitDefEqProofs [go_sem,r1,r2])
 ·have hkk:k=l.length:=by omega
  have b1:¬(k:Int)<l.length:=by omega
  subst hkk
  simp -implicitDefEqProofs [go_sem,b1,hPl]
  by_cases h:G l.length=[]
  ·simp -implicitDefEqProofs [go_sem,h]
   exact Wk.nil 0 12 true
  ·simp -implicitDefEqProofs [go_sem,aV h,h,hFr]
   exact Wk.refl _
theorem yW (L:List (List PQ)) (hL:L.length≤1024) (hl:∀l∈L,l.length≤16384) (hs:∀l∈L,∀p∈l,p.sz≤4294967296):ag Tryz.prog 53 [yp L] (uk (cB L)):=by
 refine ag.of_ca (Ed _) (Cg Tryz.func53 rfl [.tmp 2] rfl ?_)
 have hPl:(L.map eL).length=L.length:=by simp
 have hg0:∀i (h:i<L.length),bU (L.map eL) (i:Int) = .sl 6 false (L[i].map eA):=fun i h=>dM h
 have hr:=jL L
 unfold yp
 generalize L.map eL=U at *
 have hEl:∀i,i≤L.length→(cB (L.take i)).length≤i*16384:=fun i hi=>by
  refine Nat.le_trans (pO (n:=16384) fun l h=>hl l (List.mem_of_mem_take h)) (by rw [List.length_take]; exact Nat.mul_le_mul_right _ (by omega))
 obtain ⟨H,hH⟩:∃H:Nat→List AV,H=fun i=>(cB (L.take i)).map nE:=⟨_,rfl⟩
 have hHr:∀i,roL (H i):=fun i=>by rw [hH]; exact mP _
 have hH0:H 0=[]:=by rw [hH]; rfl
 have hHe:uk (cB L) = .sl 12 false (H L.length):=by rw [hH]; simp only; rw [List.take_of_length_le (by omega)]; rfl
 have hHl:∀i,i≤L.length→(H i).length≤16777216:=fun i hi=>by
  have:=hEl i hi
  rw [hH,List.length_map]
  omega
 rw [hHe]
 simp -implicitDefEqProofs [go_sem]
 refine ap 2 (α:={i:Nat // i≤L.length}) (fun i=>[(0,.sl 1 false U),(3,if i.1=0 then .sl 0 true [] else .own 12 1 0 (H i.1).length),(4,.int .i64 i.1)]) (fun i=>if i.1=0 then [] else [(1,.live 12 (H i.1))]) (fun i=>L.length-i.1) ⟨0,Nat.zero_le _⟩ [] (by simp) (fun _ _ _ _ h=>h) (by simp) (by simp -implicitDefEqProofs [go_sem,renL_ro (nm []) _ hr,cloL_ro (n:=2) _ hr]) (by simp -implicitDefEqProofs [go_sem]) fun ⟨i,hi⟩=>?_
 have hHi:=hHl i hi
 have hHir:=hHr i
 have hHir1:=hHr (i+1)
 by_cases a:i<L.length
 ·have a1:(i:Int)<L.length:=by omega
  have gi:=hg0 i a
  have ho:=BT L[i] (by have:=hl _ (List.getElem_mem a); omega) (hs _ (List.getElem_mem a))
  have hE1:H (i+1)=H i++(kD L[i]).map nE:=by
   rw [hH]
   simp only
   rw [List.take_succ_eq_append_getElem (by omega),sH,List.map_append]
  have es:=wS i (by omega)
  have hRl:((kD L[i]).map nE).length≤16384:=by
   have h1:=mO L[i] L[i].length
   have h2:=hl _ (List.getElem_mem a)
   rw [List.length_map,←v_]; omega
  have hRr:=mP (kD L[i])
  have xr:=cY L[i]
  unfold eL uk at ho
  generalize (kD L[i]).map nE=R at *
  generalize L[i].map eA=X at *
  have hrn:=fun rn=>renL_ro rn _ hr
  have hH1r:=fun rn=>renL_ro rn _ hHir1
  have hH1c:=cloL_ro (n:=2) _ hHir1
  have w1:IntKind.i64.wrap 1=1:=bS (by omega)
  by_cases i0:i=0
  ·subst i0
   rw [hH0,List.nil_append] at hE1
   rw [show ((0:Nat):Int)=0 from rfl] at gi a1
   simp -implicitDefEqProofs [go_sem,a1,a,hPl,gi]
   refine ah _ ho (by simp [go_sem,xr]) ?_
   simp -implicitDefEqProofs [go_sem,hRr,fitsL_ro _ _ hRr]
   refine ⟨by omega,?_⟩
   rw [←hE1]
   simp -implicitDefEqProofs [go_sem,es,w1]
   exact ae ⟨1,a⟩ (by simp only; omega) [(1,2)] (by simp) (by simp [nm]) (by simp) (by simp -implicitDefEqProofs [go_sem,hE1,w1,hrn,cloL_ro (n:=2) _ hr]) (by simp -implicitDefEqProofs [go_sem,hH1r,hH1c])
  ·simp -implicitDefEqProofs [go_sem,a1,a,hPl,gi,i0]
   refine ah _ ho (by simp [go_sem,xr]) ?_
   simp -implicitDefEqProofs [go_sem,hRr,fitsL_ro _ _ hRr]
   refine ⟨by omega,?_⟩
   have hl1:(H (i+1)).length=(H i).length+R.length:=by rw [hE1,List.length_append]
   rw [←hE1,←hl1]
   simp -implicitDefEqProofs [go_sem,es]
   exact ae ⟨i+1,a⟩ (by simp only; omega) [(1,2)] (by simp) (by simp [nm]) (by simp) (by simp -implicitDefEqProofs [go_sem,hrn,cloL_ro (n:=2) _ hr]) (by simp -implicitDefEqProofs [go_sem,hH1r,hH1c])
 ·have hii:i=L.length:=by omega
  have a1:¬(i:Int)<L.length:=by omega
  subst hii
  by_cases i0:L.length=0
  ·have hHL:H L.length=[]:=by rw [i0,hH0]
   simp -implicitDefEqProofs [go_sem,a1,hPl,i0,hHL,hH0]
   exact Wk.nil 0 12 true
  ·simp -implicitDefEqProofs [go_sem,a1,hPl,i0,hHir]
   exact Wk.refl _
theorem Ki {l:List PQ} {n:Nat} (hs:∀p∈l,p.sz≤n):∀e∈kD l,e.1.sz≤n∧e.2.sz≤n:=fun e he=>by
 unfold kD at he
 obtain ⟨he,_⟩:=List.mem_filter.1 he
 obtain ⟨i,hi,rfl⟩:=List.mem_map.1 he
 have hi:=List.mem_range.1 hi
 have key:∀j,j<l.length→(l.getD j ⟨0,0⟩).sz≤n:=fun j hj=>by
  rw [List.getD_eq_getElem?_getD,List.getElem?_eq_getElem hj]
  exact hs _ (List.getElem_mem hj)
 exact ⟨key _ hi,key _ (Nat.mod_lt _ (by omega))⟩
theorem IL {L:List (List PQ)} {n:Nat} (hs:∀l∈L,∀p∈l,p.sz≤n):∀e∈cB L,e.1.sz≤n∧e.2.sz≤n:=fun e he=>by
 obtain ⟨l,hl,he⟩:=List.mem_flatMap.1 he
 exact Ki (hs l hl) e he
theorem sI (E:List (PQ×PQ)) (hE:E.length≤1048576) (hs:∀e∈E,e.1.sz≤4294967296∧e.2.sz≤4294967296):ag Tryz.prog 27 [uk E] (GX E):=by
 refine ag.of_ca (Iy _) (Cg Tryz.func27 rfl [.tmp 2] rfl ?_)
 obtain ⟨V,hV⟩:∃V,V=E.map Bm:=⟨_,rfl⟩
 have hVl:V.length=E.length:=by rw [hV]; simp
 have hVr:∀i,roL (V.take i):=fun i=>by rw [hV]; exact bV (nR E)
 have hVg:∀i (h:i<E.length),V[i]'(by omega) = .agg (pC E[i].1++pC E[i].2):=fun i h=>by subst hV; rw [List.getElem_map]; rfl
 have hgoal:GX E = .sl 12 false V:=by rw [hV]; rfl
 have hg0:∀i (h:i<E.length),bU (E.map nE) (i:Int) = .agg (eC E[i].1++eC E[i].2):=fun i h=>dM h
 have hPl:(E.map nE).length=E.length:=by simp
 have hr:=mP E
 rw [hgoal]
 unfold uk
 generalize E.map nE=U at *
 simp -implicitDefEqProofs [go_sem]
 refine ap 2 (α:={i:Nat // i≤E.length}) (fun i=>[(0,.sl 12 false U),(3,di 12 1 (V.take i.1)),(4,.int .i64 i.1)]) (fun i=>cR 12 1 (V.take i.1)) (fun i=>E.length-i.1) ⟨0,Nat.zero_le _⟩ [] (by simp) (fun _ _ _ _ h=>h) (by simp) (by simp -implicitDefEqProofs [go_sem,renL_ro (nm []) _ hr,cloL_ro (n:=2) _ hr]) (by simp -implicitDefEqProofs [go_sem]) fun ⟨i,hi⟩=>?_
 have hTl:(V.take i).length=i:=by rw [List.length_take]; omega
 by_cases a:i<E.length
 ·have a1:(i:Int)<E.length:=by omega
  have gi:=hg0 i a
  have es:=wS i (by omega)
  have k1:=eO E[i].1 (by have:=(hs _ (List.getElem_mem a)).1; omega)
  have k2:=eO E[i].2 (by have:=(hs _ (List.getElem_mem a)).2; omega)
  have hsc:V.take (i+1)=V.take i++[.agg (pC E[i].1++pC E[i].2)]:=by
   rw [List.take_succ_eq_append_getElem (by omega),hVg i a]
  have hr1:=hVr (i+1)
  rw [hsc] at hr1
  have dx:(eC E[i].1++eC E[i].2).take 6=eC E[i].1:=rfl
  have dy:((eC E[i].1++eC E[i].2).drop 6).take 6=eC E[i].2:=rfl
  have dz:(eC E[i].1++eC E[i].2).length=12:=rfl
  have ez:(eC E[i].2).take 6=eC E[i].2:=rfl
  rw [aP,aQ] at k1 k2
  have r1:=renL_ro (nm [(1,17)]) _ hr1
  have r2:=cloL_ro (n:=2) _ hr1
  generalize E[i].1=x at *
  generalize E[i].2=y at *
  simp -implicitDefEqProofs [go_sem,a1,a,hPl,gi,dx,dy]
  refine aa k1 ?_
  simp -implicitDefEqProofs [go_sem,a1,a,hPl,gi,dx,dy]
  refine aa k2 ?_
  have dd:List.drop 12 (pC x++[AV.bool false,.sl 0 true [],.sl 0 true [],.bool false,.sl 0 true [],.sl 0 true []])=[]:=rfl
  simp -implicitDefEqProofs [go_sem,dd]
  refine aI (.inl rfl) (by omega) (by omega) (by simp -implicitDefEqProofs [go_sem,aF]) (by simp [hTl]<;>omega) (fun h=>by simp -implicitDefEqProofs [go_sem,aC h]) ?_
  have hmin:min i V.length=i:=by omega
  simp -implicitDefEqProofs [go_sem,es,hmin]
  exact ae ⟨i+1,a⟩ (by simp only; omega) [(1,17)] (by simp) (by simp only [hsc,bP]; simp [nm]) (by simp) (by simp only [hsc,eJ]; simp -implicitDefEqProofs [go_sem,hTl,hmin,renL_ro (nm [(1,17)]) _ hr,cloL_ro (n:=2) _ hr]) (by simp only [hsc,bP]; simp -implicitDefEqProofs [go_sem,r1,r2])
 ·have hii:i=E.length:=by omega
  have a1:¬(i:Int)<E.length:=by omega
  have hTV:V.take i=V:=List.take_of_length_le (by omega)
  have hro:=hVr i
  rw [hTV] at hro ⊢
  simp -implicitDefEqProofs [go_sem,a1,hPl]
  exact fS hro (fun h=>by simp -implicitDefEqProofs [go_sem,aC h])
theorem BL (E:List (PQ×PQ)) (hE:E.length≤1048576) (hs:∀e∈E,e.1.sz≤4294967296∧e.2.sz≤4294967296):ag Tryz.prog 25 [GX E,GX E] (.bool true):=by
 refine Pg Tryz.func25 rfl [.tmp 4] rfl (by simp -implicitDefEqProofs [go_sem]) ?_
 have hg0:∀i (h:i<E.length),bU (E.map Bm) (i:Int) = .agg (pC E[i].1++pC E[i].2):=fun i h=>dM h
 have hPl:(E.map Bm).length=E.length:=by simp
 have hr:=nR E
 unfold GX
 generalize E.map Bm=U at *
 simp -implicitDefEqProofs [go_sem]
 refine ap 0 (α:={i:Nat // i≤E.length}) (fun i=>[(0,.sl 12 false U),(1,.sl 12 false U),(5,.int .i64 i.1)]) (fun i=>[]) (fun i=>E.length-i.1) ⟨0,by omega⟩ [] (by simp) (by simp) (by simp) (by simp -implicitDefEqProofs [go_sem,renL_ro (nm []) _ hr,cloL_ro (n:=0) _ hr]) (by simp -implicitDefEqProofs [go_sem]) fun ⟨i,hi⟩=>?_
 by_cases a:i<E.length
 ·have a1:(i:Int)<E.length:=by omega
  have gi:=hg0 i a
  have es:=wS i (by omega)
  have k1:=tH E[i].1 (by have:=(hs _ (List.getElem_mem a)).1; omega)
  have k2:=tH E[i].2 (by have:=(hs _ (List.getElem_mem a)).2; omega)
  have dx:(pC E[i].1++pC E[i].2).take 6=pC E[i].1:=rfl
  have dy:((pC E[i].1++pC E[i].2).drop 6).take 6=pC E[i].2:=rfl
  rw [aQ] at k1 k2
  generalize E[i].1=x at *
  generalize E[i].2=y at *
  simp -implicitDefEqProofs [go_sem,a1,a,hPl,gi,dx,dy]
  refine aa k1 ?_
  simp -implicitDefEqProofs [go_sem,a1,a,hPl,gi,dx,dy]
  refine aa k2 ?_
  simp -implicitDefEqProofs [go_sem,es]
  exact ae ⟨i+1,by omega⟩ (by simp only; omega) [] (by simp) (by simp) (by simp) (by simp -implicitDefEqProofs [go_sem,renL_ro (nm []) _ hr,cloL_ro (n:=0) _ hr]) (by simp -implicitDefEqProofs [go_sem])
 ·have a1:¬(i:Int)<E.length:=by omega
  simp -implicitDefEqProofs [go_sem,a1,hPl]
theorem CQ {sz:Nat} {L:List AV} (hr:roL L):ro (slv sz L):=by
 unfold slv
 split
 ·simp only [ro,roL]
 ·simpa only [ro] using hr
theorem Jn {L:List (List PR)} {i:Nat} (h:i<L.length):bU (L.map fK) (i:Int) = .sl 6 false (L[i].map PR.av):=dM h
def SU (p:List PR):Prop:=p.length≤12∧∀q∈p,q.In 2
theorem Kj {P:List PR→Prop} {L:List (List PR)} {i:Nat} (h:i<L.length) (h1:∀p∈L.take i,P p) (h2:P L[i]):∀p∈L.take (i+1),P p:=by
 rw [List.take_succ_eq_append_getElem h]
 intro p hp
 rcases List.mem_append.1 hp with hp|hp
 ·exact h1 p hp
 ·rw [List.mem_singleton] at hp; subst hp; exact h2
theorem PJ (m:MQ) (L:List (List PR)):Wk (H3 m L) (AA ((L.map fun p=>p.map PR.val).map (cW m))):=by
 have e:AA ((L.map fun p=>p.map PR.val).map (cW m)) = .sl 1 false (L.map fun p=>pL (cW m (p.map PR.val))):=by unfold AA; rw [List.map_map,List.map_map]; rfl
 rw [e]
 unfold H3
 refine Wk.slmap (fun p=>?_) (fun p h=>?_) 1 L
 ·unfold tw slv
  split
  ·rename_i h
   unfold pL
   rw [h]
   exact Wk.nil 0 6 true
  ·exact Wk.refl _
 ·unfold tw slv at h
  split at h<;>exact absurd h (by simp [AV.isAgg])
theorem rh (L:List (List PR)) (m:MR) (hL:L.length≤9223372036854775807) (hp:∀p∈L,p.length≤9223372036854775807∧∀q∈p,q.Lm) (hm:m.Lm):ag Tryz.prog 9 [.sl 1 false (L.map fK),m.av] (.bool true):=by
 obtain ⟨bm,km,kmb⟩:=tq m hm
 have kw:=fP
 have mro:=m.ro_cs
 have hmav:m.av = .agg m.cs:=rfl
 have mlen:m.cs.length=18:=rfl
 have mtk:m.cs.take 18=m.cs:=rfl
 have hUr:=CO L
 have hUl:(L.map fK).length=L.length:=by simp
 have hUg:∀i (h:i<L.length),bU (L.map fK) (i:Int) = .sl 6 false (L[i].map PR.av):=fun i h=>Jn h
 refine Pg Tryz.func9 rfl [.tmp 4] rfl (by simp -implicitDefEqProofs [go_sem]) ?_
 rw [hmav] at km ⊢
 obtain ⟨U,hU⟩:∃U,U=L.map fK:=⟨_,rfl⟩
 rw [←hU] at hUr hUl hUg ⊢
 by_cases a8:8<L.length
 ·have b8:(8:Int)<L.length:=by omega
  generalize m.cs=MC at *
  simp -implicitDefEqProofs [go_sem,hUl,b8,mlen]
  refine ac kw ?_
  simp -implicitDefEqProofs [go_sem]
 have b8:¬(8:Int)<L.length:=by omega
 cases bm with
 | false =>
  generalize m.cs=MC at *
  simp -implicitDefEqProofs [go_sem,hUl,b8,mlen,mtk]
  refine ah _ km (by simp [go_sem,mro]) ?_
  simp -implicitDefEqProofs [go_sem]
  refine ac kw ?_
  simp -implicitDefEqProofs [go_sem]
 | true =>
 have hmi:=kmb rfl
 obtain ⟨V,hV⟩:∃V,V=L.map fun p=>eL (p.map PR.val):=⟨_,rfl⟩
 have hVl:V.length=L.length:=by rw [hV]; simp
 have hVr:roL V:=by rw [hV]; exact dq fun p=>oW _
 have hVg:∀i (h:i<L.length),V[i]'(by omega)=eL (L[i].map PR.val):=fun i h=>by subst hV; rw [List.getElem_map]
 obtain ⟨MC,hMC⟩:∃MC,MC=m.cs:=⟨_,rfl⟩
 rw [←hMC] at km mro mlen mtk ⊢
 have mrr:=fun rn=>renL_ro rn _ mro
 have mrc:=cloL_ro (n:=2) _ mro
 have hV0:L.length=0→V=[]:=fun h=>List.length_eq_zero_iff.1 (by omega)
 simp -implicitDefEqProofs [go_sem,hUl,b8,mlen,mtk]
 refine ah _ km (by simp [go_sem,mro]) ?_
 simp -implicitDefEqProofs [go_sem]
 refine ap 2 (α:={i:Nat // i≤L.length∧∀p∈L.take i,SU p}) (fun i=>[(0,.sl 1 false U),(3,.ptr 0 0 0),(5,if i.1=L.length then slv 1 V else di 1 1 (V.take i.1)),(6,.int .i64 i.1)]) (fun i=>(0,.live 18 [.agg MC])::(if i.1=L.length then [] else cR 1 1 (V.take i.1))) (fun i=>L.length-i.1) ⟨0,Nat.zero_le _,by simp⟩ [] (by simp) (fun _ _ _ _ h=>h) (by simp) (by
  rcases Nat.eq_zero_or_pos L.length with h|h
  ·simp -implicitDefEqProofs [go_sem,h,hV0 h,slv,renL_ro (nm []) _ hUr,cloL_ro (n:=2) _ hUr]
  ·simp -implicitDefEqProofs [go_sem,show ¬0=L.length by omega,renL_ro (nm []) _ hUr,cloL_ro (n:=2) _ hUr]) (by
  rcases Nat.eq_zero_or_pos L.length with h|h
  ·simp -implicitDefEqProofs [go_sem,h,mrr,mrc]
  ·simp -implicitDefEqProofs [go_sem,show ¬0=L.length by omega,mrr,mrc]) fun ⟨i,hi,hok⟩=>?_
 have hTl:(V.take i).length=i:=by rw [List.length_take]; omega
 have hTr:roL (V.take i):=bV hVr
 have hTr1:roL (V.take (i+1)):=bV hVr
 by_cases a:i<L.length
 ·have a1:(i:Int)<L.length:=by omega
  have an:¬i=L.length:=by omega
  simp only [an,if_false]
  have gi:=hUg i a
  have es:=wS i (by omega)
  have hli:=(hp _ (List.getElem_mem a)).1
  have hlm:=(hp _ (List.getElem_mem a)).2
  have ks:=jy L[i] 2 hli
  rw [show ((2:Nat):Int)=2 from rfl] at ks
  have hxl:(L[i].map PR.av).length=L[i].length:=by simp
  have hxr:=iR L[i]
  have hstep:=Kj (P:=SU) a hok
  have hsc:V.take (i+1)=V.take i++[eL (L[i].map PR.val)]:=by
   rw [List.take_succ_eq_append_getElem (by omega),hVg i a]
  have kin:=u_ L[i]
  generalize L[i]=p at *
  unfold fK at ks kin
  generalize p.map PR.av=x at *
  by_cases b:12<p.length
  ·have b1:(12:Int)<p.length:=by omega
   simp -implicitDefEqProofs [go_sem,a,a1,hUl,gi,hxl,b1]
   refine ac kw ?_
   simp -implicitDefEqProofs [go_sem]
  have b1:¬(12:Int)<p.length:=by omega
  by_cases c:∀q∈p,q.x.sml 2∧q.y.sml 2
  rotate_left
  ·rw [decide_eq_false c] at ks
   simp -implicitDefEqProofs [go_sem,a,a1,hUl,gi,hxl,b1]
   refine ah _ ks (by simp [go_sem,hxr]) ?_
   simp -implicitDefEqProofs [go_sem]
   refine ac kw ?_
   simp -implicitDefEqProofs [go_sem]
  rw [decide_eq_true c] at ks
  have hq:∀q∈p,q.In 2:=fun q h=>⟨bL (c q h).1 (hlm q h).1,bL (c q h).2 (hlm q h).2⟩
  have kin:=kin (by omega) (fun q h=>(hq q h).mono)
  rw [hsc] at hTr1
  have rel:=cY (p.map PR.val)
  unfold eL at kin hsc hTr1
  generalize (p.map PR.val).map eA=E at *
  simp -implicitDefEqProofs [go_sem,a,a1,hUl,gi,hxl,b1]
  refine ah _ ks (by simp [go_sem,hxr]) ?_
  simp -implicitDefEqProofs [go_sem,a,a1,hUl,gi]
  refine ah _ kin (by simp [go_sem,hxr]) ?_
  simp -implicitDefEqProofs [go_sem]
  refine aI (.inl rfl) (by omega) (by omega) (by simp -implicitDefEqProofs [go_sem,fitsL_ro _ _ rel]) (by simp [hTl]<;>omega) (fun h=>by simp -implicitDefEqProofs [go_sem,aC h]) ?_
  simp -implicitDefEqProofs [go_sem,es]
  have r1:=renL_ro (nm [(1,3)]) _ hTr1
  have r2:=cloL_ro (n:=2) _ hTr1
  by_cases hlast:i+1=L.length
  ·have hTV:V.take (i+1)=V:=List.take_of_length_le (by omega)
   have hfz:=oE (g:=3) (l:=V) hTr1
   have hVn:V≠[]:=by rw [←hTV,hsc]; simp
   have hVlen:V.length=i+1:=by omega
   rw [←hsc,hTV] at hfz ⊢
   refine mC 3 1 V (by simp -implicitDefEqProofs [go_sem]) ⟨i+1,a,hstep ⟨by omega,hq⟩⟩ (by simp only; omega) [] (by simp) (by simp [nm]) (by simp) ?_ ?_
   ·simp -implicitDefEqProofs [go_sem,hlast,slv,hVn,hTl,renL_ro (nm []) _ hUr,cloL_ro (n:=2) _ hUr,show min i V.length+1=V.length by omega,List.take_length,renL_ro (nm []) _ hVr,cloL_ro (n:=2) _ hVr]
    omega
   ·simp -implicitDefEqProofs [go_sem,hlast,mrr,mrc]
  ·exact ae ⟨i+1,a,hstep ⟨by omega,hq⟩⟩ (by simp only; omega) [(1,3)] (by simp) (by simp only [hlast,if_false,hsc,bP]; simp [nm]) (by simp) (by simp only [hlast,if_false,hsc,eJ]; simp -implicitDefEqProofs [go_sem,hTl,show min i V.length=i by omega,renL_ro (nm [(1,3)]) _ hUr,cloL_ro (n:=2) _ hUr]) (by simp only [hlast,if_false,hsc,bP]; simp -implicitDefEqProofs [go_sem,mrr,mrc,r1,r2])
 have a1:¬(i:Int)<L.length:=by omega
 have hii:i=L.length:=by omega
 simp only [hii,if_true]
 rw [hii,List.take_length] at hok
 clear hTr1
 obtain ⟨Q,hQ⟩:∃Q,Q=L.map fun p=>p.map PR.val:=⟨_,rfl⟩
 have hQl:Q.length=L.length:=by rw [hQ]; simp
 have hVQ:V=Q.map eL:=by rw [hV,hQ,List.map_map]; rfl
 have hQp:∀p∈Q,p.length≤12∧∀q∈p,q.sz≤2:=fun p h=>by
  rw [hQ] at h
  obtain ⟨x,hx,rfl⟩:=List.mem_map.1 h
  refine ⟨by rw [List.length_map]; exact (hok x hx).1,fun q hq=>?_⟩
  obtain ⟨y,hy,rfl⟩:=List.mem_map.1 hq
  exact ((hok x hx).2 y hy).sz
 have k1:=lY L m (by omega) (fun p h=>by have:=(hok p h).1; omega) (fun p h q hq=>((hok p h).2 q hq).mono) ⟨hmi.a.mono,hmi.b.mono,hmi.c.mono,hmi.d.mono,hmi.e.mono,hmi.f.mono⟩
 have k2:=HW m ⟨hmi.a.mono,hmi.b.mono,hmi.c.mono,hmi.d.mono,hmi.e.mono,hmi.f.mono⟩
 have ms:sz m.val.a≤6∧sz m.val.b≤6∧sz m.val.c≤6∧sz m.val.d≤6∧sz m.val.e≤6∧sz m.val.f≤6:=⟨hmi.a.sz,hmi.b.sz,hmi.c.sz,hmi.d.sz,hmi.e.sz,hmi.f.sz⟩
 have k3:=uY m.val ⟨by omega,by omega,by omega,by omega⟩
 have k4:=aE m.val.det
 have s0:=eo (x:=m.val.det)
 have k5:=xf Q m.val (by omega) (fun p h=>by have:=(hQp p h).1; omega) (fun p h q hq=>by have:=(hQp p h).2 q hq; omega) ⟨by omega,by omega,by omega,by omega,by omega,by omega⟩
 have hmz:∀p∈Q.map (cW m.val),p.length≤12∧∀q∈p,q.sz≤1000:=fun p h=>by
  obtain ⟨x,hx,rfl⟩:=List.mem_map.1 h
  refine ⟨by rw [kz]; exact (hQp x hx).1,fun q hq=>?_⟩
  obtain ⟨y,hy,rfl⟩:=Ai hq
  have:=Gy hmi (by omega) ((hQp x hx).2 y hy)
  omega
 have k6:=oC (Q.map (cW m.val)) (by rw [List.length_map]; omega) (fun p h=>by have:=(hmz p h).1; omega) (fun p h q hq=>by have:=(hmz p h).2 q hq; omega)
 have k7:=qh (Q.map (cW m.val)) (by rw [List.length_map]; omega) (fun p h=>⟨by have:=(hmz p h).1; omega,fun q hq=>by have:=(hmz p h).2 q hq; omega⟩)
 have wk:=PJ m.val L
 rw [←hQ] at wk
 have k7':=k7.args (.cons wk (.cons (Wk.refl _) .nil))
 have hEd:∀e∈cB Q,e.1.sz≤1000∧e.2.sz≤1000:=fun e he=>by
  have:=IL (n:=2) (fun l hl p hp=>(hQp l hl).2 p hp) e he
  omega
 have hEl:(cB Q).length≤1000:=by
  have:=pO (L:=Q) (n:=12) fun l hl=>(hQp l hl).1
  omega
 have k8:=sG L (by omega) (fun p h=>by have:=(hok p h).1; omega) (fun p h q hq=>((hok p h).2 q hq).mono)
 have k9:=yW Q (by omega) (fun p h=>by have:=(hQp p h).1; omega) (fun p h q hq=>by have:=(hQp p h).2 q hq; omega)
 have k10:=sI (cB Q) (by omega) (fun e h=>⟨by have:=(hEd e h).1; omega,by have:=(hEd e h).2; omega⟩)
 have k11:=BL (cB Q) (by omega) (fun e h=>⟨by have:=(hEd e h).1; omega,by have:=(hEd e h).2; omega⟩)
 rw [←hQ] at k8
 have hrpL:I5 L = .sl 1 false U:=by unfold I5; rw [hU]
 rw [hrpL] at k1 k8
 have hEQ:yp Q = .sl 1 false V:=by unfold yp; rw [hVQ]
 rw [hEQ] at k5 k9
 rw [hmav,←hMC] at k1 k2
 have rE:=nR (cB Q)
 have rEE:=mP (cB Q)
 unfold GX at k8 k10 k11
 unfold uk at k9 k10
 generalize (cB Q).map Bm=ED at *
 generalize (cB Q).map nE=EED at *
 have rem:=Iz m.val
 have lem:(BN m.val).length=18:=rfl
 have tem:(BN m.val).take 18=BN m.val:=rfl
 have hem:Jf m.val = .agg (BN m.val):=rfl
 rw [hem] at k2 k3 k5
 generalize BN m.val=EM at *
 have rmp:=CN m.val L
 have lmp:(L.map (tw m.val)).length=L.length:=by simp
 have ePP:AA (Q.map (cW m.val)) = .sl 1 false ((Q.map (cW m.val)).map pL):=rfl
 have ePQ:yq (Q.map (cW m.val)) = .sl 1 false ((Q.map (cW m.val)).map pL):=rfl
 rw [ePP] at k6
 unfold H3 at k1 k7'
 clear wk k7
 generalize L.map (tw m.val)=MP at *
 have rpp:=ma (Q.map (cW m.val))
 have rel:=jL (Q.map (cW m.val))
 unfold yp at k5 k6
 generalize (Q.map (cW m.val)).map pL=PP at *
 generalize (Q.map (cW m.val)).map eL=EP at *
 generalize aM m.val.det=sd at *
 have rDD:=iJ m.val.det
 generalize fA m.val.det=DD at *
 simp -implicitDefEqProofs [go_sem,a1,hUl,mlen,mtk]
 refine ah _ k1 (by simp [go_sem,hUr,mro]) ?_
 by_cases d0:m.val.det=0
 ·have e0:=s0.2 d0
  subst e0
  simp -implicitDefEqProofs [go_sem,d0,mlen,mtk]
  refine ah _ k2 (by simp [go_sem,mro]) ?_
  simp -implicitDefEqProofs [go_sem,lem,tem]
  refine ah _ k3 (by simp [go_sem,rem]) ?_
  simp -implicitDefEqProofs [go_sem]
  refine ah _ k4 (by simp [go_sem,rDD]) ?_
  simp -implicitDefEqProofs [go_sem]
  refine ah _ k8 (by simp [go_sem,hUr]) ?_
  simp -implicitDefEqProofs [go_sem]
  refine ah _ (k9.args (.cons (Wk.slv 1 V) .nil)) (by simp -implicitDefEqProofs [go_sem,CQ hVr]) ?_
  simp -implicitDefEqProofs [go_sem]
  refine ah _ k10 (by simp [go_sem,rEE]) ?_
  simp -implicitDefEqProofs [go_sem]
  refine ah _ k11 (by simp [go_sem,rE]) ?_
  simp -implicitDefEqProofs [go_sem]
  refine ac kw ?_
  simp -implicitDefEqProofs [go_sem]
 ·have e0:¬sd=0:=fun h=>d0 (s0.1 h)
  simp -implicitDefEqProofs [go_sem,d0,mlen,mtk]
  refine ah _ k2 (by simp [go_sem,mro]) ?_
  simp -implicitDefEqProofs [go_sem,lem,tem]
  refine ah _ k3 (by simp [go_sem,rem]) ?_
  simp -implicitDefEqProofs [go_sem]
  refine ah _ k4 (by simp [go_sem,rDD]) ?_
  simp -implicitDefEqProofs [go_sem,e0,lem,tem]
  refine ah _ (k5.args (.cons (Wk.slv 1 V) (.cons (Wk.refl _) .nil))) (by simp -implicitDefEqProofs [go_sem,CQ hVr,rem]) ?_
  simp -implicitDefEqProofs [go_sem]
  refine ah _ k6 (by simp [go_sem,rel]) ?_
  simp -implicitDefEqProofs [go_sem]
  refine ah _ k7' (by simp [go_sem,rmp,rpp]) ?_
  simp -implicitDefEqProofs [go_sem]
  refine ah _ k8 (by simp [go_sem,hUr]) ?_
  simp -implicitDefEqProofs [go_sem]
  refine ah _ (k9.args (.cons (Wk.slv 1 V) .nil)) (by simp -implicitDefEqProofs [go_sem,CQ hVr]) ?_
  simp -implicitDefEqProofs [go_sem]
  refine ah _ k10 (by simp [go_sem,rEE]) ?_
  simp -implicitDefEqProofs [go_sem]
  refine ah _ k11 (by simp [go_sem,rE]) ?_
  simp -implicitDefEqProofs [go_sem]
  refine ac kw ?_
  simp -implicitDefEqProofs [go_sem]
end Go.Proofs.YtdnmfaljidjijaaGreat
