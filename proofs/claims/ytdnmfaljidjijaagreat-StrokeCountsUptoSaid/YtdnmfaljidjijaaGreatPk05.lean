import Derived.Test.YtdnmfaljidjijaaGreatPk04
import Derived.Test.YtdnmfaljidjijaaGreatRows
namespace Go.Proofs.YtdnmfaljidjijaaGreat
set_option maxHeartbeats 64000000
open Go Go.Proofs
set_option linter.unusedSimpArgs false
set_option linter.unusedVariables false
set_option maxRecDepth 20000
def iG (closed:Bool):Nat:=if closed then 0 else 1
def cP (c:List PQ) (closed:Bool) (s:SR):List (List PQ×Int):=ir c closed s++(jP c closed s++lF c closed s)
theorem ew (c:List PQ) (closed:Bool) (s:SR):(ir c closed s).length=aG c.length closed:=by unfold ir; simp
theorem jd (c:List PQ) (closed:Bool) (s:SR):(jP c closed s).length=aG c.length closed-iG closed:=by unfold jP iG; simp
theorem vG {c:List PQ} {closed:Bool} {s:SR} {i:Nat} (h:i<aG c.length closed):(cP c closed s).getD i ([],0)=fk (aK c i) (aK c (i+1)) s:=by
 have h':i<(ir c closed s).length:=by rw [ew]; exact h
 unfold cP
 rw [List.getD_eq_getElem?_getD,List.getElem?_append_left h']
 unfold ir
 rw [List.getElem?_map,List.getElem?_range h]; rfl
theorem vJ {c:List PQ} {closed:Bool} {s:SR} {j:Nat} (h0:iG closed≤j) (h:j<aG c.length closed):(cP c closed s).getD (aG c.length closed+(j-iG closed)) ([],0)=dl (aK c j) ((aK c j).sub (aK c (j+c.length-1))) ((aK c (j+1)).sub (aK c j)) s:=by
 unfold cP
 rw [List.getD_eq_getElem?_getD,List.getElem?_append_right (by rw [ew]; omega),ew,show aG c.length closed+(j-iG closed)-aG c.length closed=j-iG closed by omega,List.getElem?_append_left (by rw [jd]; omega)]
 unfold jP
 rw [List.getElem?_map,List.getElem?_drop]
 have e:(if closed=true then 0 else 1)+(j-iG closed)=j:=by unfold iG at *; omega
 rw [e,List.getElem?_range h]; rfl
theorem vH {c:List PQ} {s:SR} (hc:2≤c.length):(cP c false s).getD (aG c.length false+(aG c.length false-1)) ([],0)=gX (aK c 0) ((aK c 0).sub (aK c 1)) s:=by
 unfold cP
 rw [List.getD_eq_getElem?_getD,List.getElem?_append_right (by rw [ew]; omega),ew,List.getElem?_append_right (by rw [jd]; simp [iG]),jd,show aG c.length false+(aG c.length false-1)-aG c.length false-(aG c.length false-iG false)=0 by simp [iG]]
 rfl
theorem vI {c:List PQ} {s:SR} (hc:2≤c.length):(cP c false s).getD (aG c.length false+(aG c.length false-1)+1) ([],0)=gX (aK c (c.length-1)) ((aK c (c.length-1)).sub (aK c (c.length-2))) s:=by
 unfold cP
 rw [List.getD_eq_getElem?_getD,List.getElem?_append_right (by rw [ew]; omega),ew,List.getElem?_append_right (by rw [jd]; simp [iG]; omega),jd,show aG c.length false+(aG c.length false-1)+1-aG c.length false-(aG c.length false-iG false)=1 by simp [iG]; omega]
 rfl
theorem Ae (c:List PQ) (closed:Bool) (s:SR):(cP c closed s).length=aG c.length closed+(aG c.length closed-iG closed)+(if closed then 0 else 2):=by
 unfold cP
 rw [List.length_append,List.length_append,ew,jd]
 have:(lF c closed s).length=if closed then 0 else 2:=by unfold lF; split<;>rfl
 omega
def od (ne n0 a0:Nat) (hl:List (Nat×BS)) (a:Nat) (f:Nat→BS):Prop :=
 (∀p∈hl,∀q∈hl,nm [(a0,a)] p.1=nm [(a0,a)] q.1→p.1=q.1)∧∀p∈hl,p.1<n0∧f (nm [(a0,a)] p.1)=l_ (nm [(a0,a)]) p.2∧gR ne n0 p
theorem DX (a:Nat):nm [(a,a)]=id:=by
 funext j
 simp only [DW,Mk,id]
 split
 ·rename_i h; exact h.symm
 ·rfl
theorem i6 (b:BS):l_ id b=b:=by
 cases b with
 | live sz l=>simp only [l_,renL_id]
 | obj o t=>simp only [l_]
 | _=>rfl
theorem DK {ne n0 a0 N:Nat} {hl:List (Nat×BS)} (h1:∀p∈hl,hp N hl p.1=p.2) (h2:∀p∈hl,p.1<n0∧gR ne n0 p):od ne n0 a0 hl a0 (hp N hl):=by
 unfold od
 rw [DX]
 exact ⟨fun p _ q _ h=>h,fun p hp=>⟨(h2 p hp).1,by rw [i6]; exact h1 p hp,(h2 p hp).2⟩⟩
theorem oJ {ne n0 a0 a N:Nat} {hl:List (Nat×BS)} {f:Nat→BS} (h:od ne n0 a0 hl a f):od ne n0 a0 hl a (dB N f):=by
 refine ⟨h.1,fun p hp=>?_⟩
 obtain ⟨h1,h2,h3⟩:=h.2 p hp
 refine ⟨h1,?_,h3⟩
 have hne:f (nm [(a0,a)] p.1) ≠ .fresh:=by
  rw [h2]
  obtain ⟨j,b⟩:=p
  cases b with
  | fresh=>simp only [gR] at h3
  | _=>simp [l_]
 unfold dB
 split
 ·rw [xp hne]; exact h2
 ·exact h2
@[go_sem] theorem SG (a b c d e f g h:AV):gN [a,b,c,d,e,f,g,h]=aH (aH (aH (aH (aH (aH (aH (aH (fun _ => .any) 0 a) 1 b) 2 c) 3 d) 4 e) 5 f) 6 g) 7 h:=by
 funext k; unfold gN aH
 match k with
 | 0=>rfl
 | 1=>rfl
 | 2=>rfl
 | 3=>rfl
 | 4=>rfl
 | 5=>rfl
 | 6=>rfl
 | 7=>rfl
 | k+8=>simp
def fQ (c:List PQ):AV := .fn (.func 181) [] [.rp [pL c],.rp [.int .i64 c.length]]
def kU (c:List PQ):AV := .fn (.func 182) [] [.rp [fQ c]]
attribute [go_sem] iV
@[go_sem] theorem Su (rn:Nat→Nat) (l:List PQ):ren rn (pL l)=pL l:=x_ rn _ (iV l)
@[go_sem] theorem RY (n:Nat) (l:List PQ):clo n (pL l)=True:=eq_true (wV _ (iV l))
def OL (c:List PQ) (closed:Bool) (s:SR):List AV:=[.rp [.int .i64 (aG c.length closed:Nat)],.rp [fQ c],.rp s.cs,.rp [.int .i64 (iG closed:Nat)],.rp [kU c],.rp [.bool closed],.rp [.int .i64 c.length]]
theorem JK (c:List PQ) (closed:Bool) (s:SR) (hc:2≤c.length) (hc16:c.length≤16) (hz:∀p∈c,p.sz≤1) (hcy:yn qI c) (hs:s.Sml) (nr ne:Nat) (hnr:nr<ne) (f0:Nat→BS) (K:AV→(Nat→BS)→Nat→Prop) (hl:Nat→List (Nat×BS)) (ok:Nat→Prop) (ok0:ok 0)
 (hhp:∀k,∀p∈hl k,∀N,hp N (hl k) p.1=p.2) (hcl:∀k,∀p∈hl k,p.1<ne+1∧gR ne (ne+1) p) (h0:od ne (ne+1) ne (hl 0) ne f0)
 (hy:∀k a f n (K':AV→(Nat→BS)→Nat→Prop),k<(cP c closed s).length→ok k→od ne (ne+1) ne (hl k) a f→(∀a' f' n',ok (k+1)→od ne (ne+1) ne (hl (k+1)) a' f'→K' (.bool true) f' n')→(∀f' n',K (.tup []) f' n'→K' (.bool false) f' n')→YA Tryz.prog nr [I4 ((cP c closed s).getD k ([],0))] f n K')
 (hK:∀a f n,ok (cP c closed s).length→od ne (ne+1) ne (hl (cP c closed s).length) a f→K (.tup []) f n):CA Tryz.prog 183 ([]++[.yld nr]++OL c closed s) f0 ne K:=by
 have hne:c≠[]:=fun h=>by subst h; simp at hc
 have z:=fun i=>hz _ (d7 hne i)
 have dz:∀i,((aK c (i+1)).sub (aK c i)).sz≤1:=fun i=>w9 hcy hne i
 have hlen:=Ae c closed s
 have hbody:∀i,i<aG c.length closed→ag Tryz.prog 184 [pA (aK c i),pA (aK c (i+1)),s.av] (jp ((cP c closed s).getD i ([],0))):=fun i hi=>by
  have:=EC (pc (aK c i)) (pc (aK c (i+1))) s (be (z _)) (be (z _)) hs
  rw [aO,aO] at this
  rw [vG hi]; exact this
 have hjoin:∀j,iG closed≤j→j<aG c.length closed→ag Tryz.prog 185 [pA (aK c j),pA ((aK c j).sub (aK c (j+c.length-1))),pA ((aK c (j+1)).sub (aK c j)),s.av] (nP ((cP c closed s).getD (aG c.length closed+(j-iG closed)) ([],0))):=fun j h1 h2=>by
  have d1:=dz (j+c.length-1)
  rw [show j+c.length-1+1=j+c.length by omega,ec] at d1
  have:=CF (pc (aK c j)) (pc ((aK c j).sub (aK c (j+c.length-1)))) (pc ((aK c (j+1)).sub (aK c j))) s (be (z _)) (be d1) (be (dz j)) hs
  rw [aO,aO,aO] at this
  rw [vJ h1 h2]; exact this
 have hsd:aG c.length closed≤16:=by unfold aG; split<;>omega
 have hfr:iG closed≤1:=by unfold iG; split<;>omega
 have hat:=fun (i:Int) (m:Nat) (h1:i+c.length=m) (h2:m≤64)=>tN c i m hne (by omega) h1 (by omega)
 have hto:=fun (i:Int) (m:Nat) (h1:i+c.length=m) (h2:m≤64)=>IH c i m hne (by omega) hz h1 (by omega)
 have hof:=fun (x:List PQ×Int)=>A1 x.1 x.2
 have sro:=s.ro_cs
 have scl:=cloL_ro (n:=ne+1) _ sro
 have slen:s.cs.length=11:=rfl
 have rpl:∀l,ro (pL l):=iV
 have h00:∀p∈hl 0,p.1<ne+1∧f0 (nm [] p.1)=l_ (nm []) p.2∧gR ne (ne+1) p:=fun p hp=>by have:=h0.2 p hp; rw [DX] at this; exact this
 have hnn:¬nr=ne:=by omega
 have hS1:1≤aG c.length closed:=by unfold aG; split<;>omega
 have hnz:=c.length
 have stk:s.cs.take 11=s.cs:=rfl
 have hsav:s.av = .agg s.cs:=rfl
 rw [hsav] at hbody hjoin
 have he0:closed=false→ag Tryz.prog 186 [pA (aK c 0),pA ((aK c 0).sub (aK c 1)),.agg s.cs] (jp ((cP c closed s).getD (aG c.length closed+(aG c.length closed-iG closed)) ([],0))):=fun hcf=>by
  subst hcf
  have z1:=PQ.sz_sub (aK c 0) (aK c 1)
  have y0:=z 0
  have y1:=z 1
  have:=yY (pc (aK c 0)) (pc ((aK c 0).sub (aK c 1))) s (be (z _)) (be (by omega)) hs
  rw [aO,aO] at this
  rw [show iG false=1 from rfl,vH hc]; exact this
 have he1:closed=false→ag Tryz.prog 186 [pA (aK c (c.length-1)),pA ((aK c (c.length-1)).sub (aK c (c.length-2))),.agg s.cs] (jp ((cP c closed s).getD (aG c.length closed+(aG c.length closed-iG closed)+1) ([],0))):=fun hcf=>by
  subst hcf
  have z1:=PQ.sz_sub (aK c (c.length-1)) (aK c (c.length-2))
  have y0:=z (c.length-1)
  have y1:=z (c.length-2)
  have:=yY (pc (aK c (c.length-1))) (pc ((aK c (c.length-1)).sub (aK c (c.length-2)))) s (be (z _)) (be (by omega)) hs
  rw [aO,aO] at this
  rw [show iG false=1 from rfl,vI hc]; exact this
 have hps:ag Tryz.prog 125 [pA (aK c 0),pA (aK c 1)] (pA ((aK c 0).sub (aK c 1))):=by
  have y0:=z 0
  have y1:=z 1
  have:=cL (pc (aK c 0)) (pc (aK c 1)) (be (by omega)) (be (by omega))
  rw [aO,aO] at this
  exact this
 unfold OL
 generalize s.cs=S at *
 generalize hL:(cP c closed s).length=LL at *
 have hcf:closed=false→iG closed=1∧aG c.length closed=c.length-1:=fun h=>by subst h; exact ⟨rfl,rfl⟩
 generalize hnnl:aG c.length closed=nn at *
 generalize hff:iG closed=ff at *
 have q3:nr<ne+1:=by omega
 refine Cz Tryz.func183 rfl [] rfl ?_
 simp -implicitDefEqProofs [go_sem]
 refine ap (ne+1) (α:={i:Nat // i≤nn∧ok i}) (fun i=>[(0,.yld nr),(1,.rp [.int .i64 nn]),(2,.rp [fQ c]),(3,.rp S),(4,.rp [.int .i64 ff]),(5,.rp [kU c]),(6,.rp [.bool closed]),(7,.rp [.int .i64 c.length]),(11,.int .i64 nn),(12,.int .i64 i.1)])
  (fun i=>hl i.1) (fun i=>nn-i.1) ⟨0,Nat.zero_le _,ok0⟩ [] (by simp) (fun _ _ _ _ h=>h) (by omega) (by simp -implicitDefEqProofs [go_sem,fQ,kU,renL_ro (nm []) _ sro,scl,q3]) h00 fun ⟨i,hi,hoi⟩=>?_
 by_cases a:i<nn
 ·have a1:(i:Int)<nn:=by omega
  have k1:=hat i (i+c.length) (by omega) (by omega)
  rw [ec] at k1
  have k2:=hat (i+1) (i+1+c.length) (by omega) (by omega)
  rw [ec] at k2
  have k3:=hbody i a
  have es:=wT i (by omega)
  have hyi:=fun a f n K' h=>hy i a f n K' (by omega) hoi h
  have hstart:od ne (ne+1) ne (hl i) ne (hp (ne+1) (hl i)):=DK (fun p h=>hhp i p h _) (hcl i)
  generalize (cP c closed s).getD i ([],0)=x at *
  have k4:=hof x
  obtain ⟨l,e⟩:=x
  unfold jp at k3
  unfold I4 at k4 hyi
  generalize aK c i=p at *
  generalize aK c (i+1)=q at *
  have rl:=iV l
  unfold pL at k3 k4 hyi
  simp only [aQ] at *
  simp -implicitDefEqProofs [go_sem,a1]
  refine lO 13 (by kernel_rfl) ?_
  simp -implicitDefEqProofs [go_sem,fQ]
  refine aa k1 ?_
  simp -implicitDefEqProofs [go_sem,es]
  refine aa k2 ?_
  simp -implicitDefEqProofs [go_sem,slen,stk]
  refine ao _ k3 (by simp [go_sem,sro]) ?_
  simp -implicitDefEqProofs [go_sem]
  refine aa k4 ?_
  simp -implicitDefEqProofs [go_sem]
  refine hyi _ _ _ _ (oJ hstart) (fun a' f' n' ho' h'=>?_) fun f' n' h'=>?_
  ·simp -implicitDefEqProofs [go_sem,es]
   exact ae ⟨i+1,by omega,ho'⟩ (by simp only; omega) [(ne,a')] (by simp) h'.1 (by omega) (by simp -implicitDefEqProofs [go_sem,fQ,kU,hnn,renL_ro (nm [(ne,a')]) _ sro,scl,q3]) h'.2
  ·simp -implicitDefEqProofs [go_sem]
   exact h'
 have a1:¬(i:Int)<nn:=by omega
 have hii:i=nn:=by omega
 subst hii
 simp -implicitDefEqProofs [go_sem,a1]
 refine ap (ne+1) (α:={j:Nat // ff≤j∧j≤i∧ok (i+(j-ff))}) (fun j=>[(0,.yld nr),(1,.rp [.int .i64 i]),(2,.rp [fQ c]),(3,.rp S),(5,.rp [kU c]),(6,.rp [.bool closed]),(7,.rp [.int .i64 c.length]),(10,.int .i64 j.1)])
  (fun j=>hl (i+(j.1-ff))) (fun j=>i-j.1) ⟨ff,Nat.le_refl _,by omega,by rw [Nat.sub_self]; exact hoi⟩ [] (by simp) (fun _ _ _ _ h=>h) (by omega) (by simp -implicitDefEqProofs [go_sem,fQ,kU,renL_ro (nm []) _ sro,scl,q3]) (fun p hp=>?_) fun ⟨j,hj0,hj,hoj⟩=>?_
 ·simp only [Nat.sub_self,Nat.add_zero] at hp
  exact ⟨(hcl i p hp).1,(hhp i p hp _).trans (i6 _).symm,(hcl i p hp).2⟩
 have hstart:od ne (ne+1) ne (hl (i+(j-ff))) ne (hp (ne+1) (hl (i+(j-ff)))):=DK (fun p h=>hhp _ p h _) (hcl _)
 by_cases b:j<i
 ·have b1:(j:Int)<i:=by omega
  have k1:=hat j (j+c.length) (by omega) (by omega)
  rw [ec] at k1
  have k2:=hto ((j:Int)-1) (j+c.length-1) (by omega) (by omega)
  rw [show j+c.length-1+1=j+c.length by omega,ec] at k2
  have k3:=hto j (j+c.length) (by omega) (by omega)
  rw [show j+c.length+1=(j+1)+c.length by omega,ec,ec] at k3
  have k4:=hjoin j hj0 b
  have es:=wT j (by omega)
  have ed:IntKind.i64.wrap ((j:Int)-1)=(j:Int)-1:=by rw [bS (by omega)]
  have hyi:=fun a f n K' h=>hy (i+(j-ff)) a f n K' (by omega) hoj h
  have enx:i+(j-ff)+1=i+(j+1-ff):=by omega
  rw [enx] at hyi
  generalize (cP c closed s).getD (i+(j-ff)) ([],0)=x at *
  have k5:=hof x
  obtain ⟨l,e⟩:=x
  unfold nP at k4
  unfold I4 at k5 hyi
  generalize (aK c j).sub (aK c (j+c.length-1))=u at *
  generalize (aK c (j+1)).sub (aK c j)=v at *
  generalize aK c j=p at *
  unfold pL at k4 k5 hyi
  simp only [aQ] at *
  simp -implicitDefEqProofs [go_sem,b1]
  refine lO 16 (by kernel_rfl) ?_
  simp -implicitDefEqProofs [go_sem,fQ]
  refine aa k1 ?_
  simp -implicitDefEqProofs [go_sem,ed,kU,fQ]
  refine aa k2 ?_
  simp -implicitDefEqProofs [go_sem,slen,stk,kU,fQ]
  refine aa k3 ?_
  simp -implicitDefEqProofs [go_sem,slen,stk]
  refine ao _ k4 (by simp [go_sem,sro]) ?_
  simp -implicitDefEqProofs [go_sem]
  refine aa k5 ?_
  simp -implicitDefEqProofs [go_sem]
  refine hyi _ _ _ _ (oJ hstart) (fun a' f' n' ho' h'=>?_) fun f' n' h'=>?_
  ·simp -implicitDefEqProofs [go_sem,es]
   exact ae ⟨j+1,by omega,by omega,ho'⟩ (by simp only; omega) [(ne,a')] (by simp) h'.1 (by omega) (by simp -implicitDefEqProofs [go_sem,fQ,kU,hnn,renL_ro (nm [(ne,a')]) _ sro,scl,q3]) h'.2
  ·simp -implicitDefEqProofs [go_sem]
   exact h'
 have b1:¬(j:Int)<i:=by omega
 have hjj:j=i:=by omega
 subst hjj
 simp -implicitDefEqProofs [go_sem,b1]
 refine lO 16 (by kernel_rfl) ?_
 simp -implicitDefEqProofs [go_sem]
 cases closed
 ·obtain ⟨g1,g2⟩:=hcf rfl
  have k1:=hat 0 (0+c.length) (by omega) (by omega)
  rw [ec] at k1
  have k2:=hat 1 (1+c.length) (by omega) (by omega)
  rw [ec] at k2
  have k3:=he0 rfl
  have k4:=he1 rfl
  have k5:=hat ((c.length:Int)-1) (c.length-1+c.length) (by omega) (by omega)
  rw [ec] at k5
  have k6:=hto ((c.length:Int)-2) (c.length-2+c.length) (by omega) (by omega)
  rw [show c.length-2+c.length+1=(c.length-1)+c.length by omega,ec,ec] at k6
  have ed:IntKind.i64.wrap ((c.length:Int)-1)=(c.length:Int)-1:=by rw [bS (by omega)]
  have ee:IntKind.i64.wrap ((c.length:Int)-2)=(c.length:Int)-2:=by rw [bS (by omega)]
  have hy0:=fun a f n K' h=>hy (j+(j-ff)) a f n K' (by simp at hlen; omega) hoj h
  have hy1:=fun a f n K' ho h=>hy (j+(j-ff)+1) a f n K' (by simp at hlen; omega) ho h
  have hlast:LL=j+(j-ff)+1+1:=by simp at hlen; omega
  rw [hlast] at hK
  generalize (cP c false s).getD (j+(j-ff)+1) ([],0)=x1 at *
  generalize (cP c false s).getD (j+(j-ff)) ([],0)=x0 at *
  have k7:=hof x0
  have k8:=hof x1
  obtain ⟨l0,e0⟩:=x0
  obtain ⟨l1,e1⟩:=x1
  unfold jp at k3 k4
  unfold I4 at k7 k8 hy0 hy1
  generalize (aK c 0).sub (aK c 1)=u at *
  generalize (aK c (c.length-1)).sub (aK c (c.length-2))=v at *
  generalize aK c 0=p0 at *
  generalize aK c 1=p1 at *
  generalize aK c (c.length-1)=p2 at *
  unfold pL at k3 k4 k7 k8 hy0 hy1
  simp only [aQ] at *
  simp -implicitDefEqProofs [go_sem,fQ]
  refine aa k1 ?_
  simp -implicitDefEqProofs [go_sem,fQ]
  refine aa k1 ?_
  simp -implicitDefEqProofs [go_sem,fQ]
  refine aa k2 ?_
  simp -implicitDefEqProofs [go_sem]
  refine aa hps ?_
  simp -implicitDefEqProofs [go_sem,slen,stk]
  refine ao _ k3 (by simp [go_sem,sro]) ?_
  simp -implicitDefEqProofs [go_sem]
  refine aa k7 ?_
  simp -implicitDefEqProofs [go_sem]
  refine hy0 _ _ _ _ (oJ hstart) (fun a' f' n' ho' h'=>?_) fun f' n' h'=>?_
  ·simp -implicitDefEqProofs [go_sem]
   refine lO 14 (by kernel_rfl) ?_
   simp -implicitDefEqProofs [go_sem,ed,fQ]
   refine aa k5 ?_
   simp -implicitDefEqProofs [go_sem,ee,kU,fQ]
   refine aa k6 ?_
   simp -implicitDefEqProofs [go_sem,slen,stk]
   refine ao _ k4 (by simp [go_sem,sro]) ?_
   simp -implicitDefEqProofs [go_sem]
   refine aa k8 ?_
   simp -implicitDefEqProofs [go_sem]
   refine hy1 _ _ _ _ ho' (oJ h') (fun a2 f2 n2 ho2 h2=>?_) fun f2 n2 h2=>?_
   ·simp -implicitDefEqProofs [go_sem]
    exact hK _ _ _ ho2 h2
   ·simp -implicitDefEqProofs [go_sem]
    exact h2
  ·simp -implicitDefEqProofs [go_sem]
   exact h'
 ·have hlast:LL=j+(j-ff):=by simp at hlen; omega
  rw [hlast] at hK
  simp -implicitDefEqProofs [go_sem]
  exact hK _ _ _ hoj (oJ hstart)
theorem EJ:∀(l:List PQ),(bd l).getLast?=l.getLast?
 | []=>rfl
 | a::l=>by
  unfold bd
  rw [List.getLast?_cons,List.getLast?_cons,←List.getLastD_eq_getLast?,←List.getLastD_eq_getLast?,mE]
theorem uV {l:List PQ} {m:Nat} (h0:0<m) (h:m<l.length):bd (l.take (m+1))=if l[m]=l[m-1]'(by omega) then bd (l.take m) else bd (l.take m)++[l[m]]:=by
 rw [List.take_succ_eq_append_getElem h,uU,EJ]
 have e:(l.take m).getLast?=some (l[m-1]'(by omega)):=by
  rw [List.getLast?_eq_getElem?,List.length_take,Nat.min_eq_left (by omega),List.getElem?_take_of_lt (by omega),List.getElem?_eq_getElem (by omega)]
 rw [e]
 by_cases hx:l[m]=l[m-1]'(by omega)
 ·rw [if_pos (by rw [hx]),if_pos hx,List.append_nil]
 ·rw [if_neg (fun h=>hx (Option.some.inj h).symm),if_neg hx]
theorem BC {l:List PQ} (h:0<l.length):bd (l.take 1)=l.take 1:=by
 cases l with
 | nil=>simp at h
 | cons a l=>rfl
theorem uK {α:Type} {X:List α} {i:Nat} {q:α} (h:i<X.length):(X.set i q).take (i+1)=X.take i++[q]:=by
 rw [List.take_succ_eq_append_getElem (by rw [List.length_set]; exact h),List.getElem_set_self,List.take_set_of_le (Nat.le_refl _)]
theorem BE (l:List PQ) (hn:l.length≤1048576) (hs:∀p∈l,p.sz≤1000000) (b ne:Nat) (hb:b<ne) (f:Nat→BS) (rest:List (Nat×BS)) (K:AV→(Nat→BS)→Nat→Prop)
 (hf:f b = .live 6 (l.map pA)) (hr:∀p∈rest,p.1<ne∧p.1≠b∧f p.1=p.2∧gR ne ne p) (hrr:∀p∈rest,∀N,hp N rest p.1=p.2)
 (hK:∀f' n',f' b = .live 6 ((bd l).map pA)→(∀p∈rest,f' p.1=p.2)→K (.own 6 b 0 (bd l).length) f' n'):CA Tryz.prog 147 [.own 6 b 0 l.length,.fn (.func 33) [] []] f ne K:=by
 have hsame:∀(i j:Nat) (hi:i<l.length) (hj:j<l.length),ag Tryz.prog 33 [.agg (pC l[i]),.agg (pC l[j])] (.bool (decide (l[i]=l[j]))):=fun i j hi hj=>by
  have z1:=hs _ (List.getElem_mem hi)
  have z2:=hs _ (List.getElem_mem hj)
  exact jJ l[i] l[j] (by omega) (by omega)
 refine Cz Tryz.func147 rfl [.tmp 4] rfl ?_
 by_cases h2:l.length<2
 ·have e:bd l=l:=by
   match l,h2 with
   | [],_=>rfl
   | [a],_=>rfl
   | a::b::l,h=>exact absurd h (by simp)
  rw [e] at hK
  have h2':(l.length:Int)<2:=by omega
  simp -implicitDefEqProofs [go_sem,h2']
  exact hK _ _ hf fun p hp=>(hr p hp).2.2.1
 have h2':¬(l.length:Int)<2:=by omega
 simp -implicitDefEqProofs [go_sem,h2']
 obtain ⟨V,hV⟩:∃V,V=l.map pA:=⟨_,rfl⟩
 have hVl:V.length=l.length:=by rw [hV]; simp
 have hVr:roL V:=by rw [hV]; exact bK _
 have hVg:∀i (h:i<l.length),V[i]?=some (.agg (pC l[i])):=fun i h=>by rw [hV]; simp [h,aQ]
 rw [←hV] at hf
 have hm0:∀j,f j=f (nm [] j):=fun _=>rfl
 refine ap ne (α:={i:Nat // 1≤i∧i≤l.length∧bd (l.take i)=l.take i}) (fun i=>[(0,.own 6 b 0 l.length),(1,.fn (.func 33) [] []),(5,.int .i64 i.1)])
  (fun i=>(b,.live 6 V)::rest) (fun i=>l.length-i.1) ⟨1,by omega,by omega,BC (by omega)⟩ [] (by simp) (fun _ _ _ _ h=>h) (by simp) (by simp -implicitDefEqProofs [go_sem,hb]) (fun p hp=>?_) fun ⟨i,hi1,hi,hci⟩=>?_
 ·rcases List.mem_cons.1 hp with rfl|hp
  ·exact ⟨hb,by simp only [ic]; rw [renL_ro _ _ hVr]; exact hf,cloL_ro _ hVr⟩
  ·obtain ⟨h1,h2,h3,h4⟩:=hr p hp
   exact ⟨h1,h3.trans (i6 _).symm,h4⟩
 have hrest:∀(W:List AV),∀p∈rest,hp ne ((b,.live 6 W)::rest) p.1=p.2:=fun W p hp'=>by
  have:=(hr p hp').2.1
  rw [xB,aq _ _ _ this]
  exact hrr p hp' ne
 have hnb:¬ne≤b:=by omega
 have hfix:∀p∈rest,lK p.2=p.2:=fun p hpm=>by
  obtain ⟨_,_,_,h4⟩:=hr p hpm
  refine xp fun h=>?_
  obtain ⟨j,bb⟩:=p
  simp only at h
  subst h
  simp only [gR] at h4
 by_cases a:i<l.length
 ·obtain ⟨k,rfl⟩:∃k,i=k+1:=⟨i-1,by omega⟩
  have a1:(k:Int)+1<l.length:=by omega
  have a2:k+1<V.length:=by omega
  have a3:k<V.length:=by omega
  have g1:V[k+1]'a2 = .agg (pC l[k+1]):=by have:=hVg _ a; rw [List.getElem?_eq_getElem a2] at this; exact Option.some.inj this
  have g2:V[k]'a3 = .agg (pC l[k]):=by have:=hVg k (by omega); rw [List.getElem?_eq_getElem a3] at this; exact Option.some.inj this
  have w1:IntKind.i64.wrap ((k:Int)+1+1)=(k:Int)+1+1:=by rw [bS (by omega)]
  have w2:IntKind.i64.wrap (k:Int)=k:=by rw [bS (by omega)]
  have hsm:=hsame (k+1) k a (by omega)
  have hct:=uV (l:=l) (m:=k+1) (by omega) a
  simp only [Nat.add_sub_cancel] at hct
  simp -implicitDefEqProofs [go_sem,a1]
  refine aU (by kernel_rfl) ?_
  have h01:(0:Int)≤(k:Int)+1:=by omega
  have a4:k<l.length:=by omega
  simp -implicitDefEqProofs [go_sem,a1,hnb,w2,h01,a2,a3,a4,g1,g2]
  refine aa hsm ?_
  by_cases e:l[k+1]=l[k]
  ·simp -implicitDefEqProofs [go_sem,e]
   rw [if_pos e] at hct
   have hc0:(bd (l.take (k+1+1))).length=k+1:=by rw [hct,hci,List.length_take]; omega
   refine ⟨⟨h01,by omega⟩,?_⟩
   refine ap ne (α:={p:List PQ×Nat // 1≤p.2∧p.2≤l.length-(k+1)∧p.1.length=l.length∧p.1.take (bd (l.take (k+1+p.2))).length=bd (l.take (k+1+p.2))∧(bd (l.take (k+1+p.2))).length≤k+p.2∧∀j,k+p.2≤j→p.1[j]?=l[j]?})
    (fun p=>[(0,.own 6 b 0 l.length),(1,.fn (.func 33) [] []),(5,.int .i64 (bd (l.take (k+1+p.1.2))).length),(6,.own 6 b (k+1) (l.length-(k+1))),(7,.int .i64 p.1.2)])
    (fun p=>(b,.live 6 (p.1.1.map pA))::rest) (fun p=>l.length-p.1.2) ⟨(l,1),by omega,by omega,rfl,by rw [hct,hci,List.length_take,Nat.min_eq_left (by omega)],by simp only; omega,fun _ _=>rfl⟩ [] (by simp) (fun _ _ _ _ h=>h) (by simp) (by simp -implicitDefEqProofs [go_sem,hb,hc0]) (fun p hpm=>?_) fun ⟨(X,m),hm1,hm,hXl,hXt,hcl,hXj⟩=>?_
   ·rcases List.mem_cons.1 hpm with rfl|hpm
    ·simp only [←hV]
     exact ⟨hb,by simp only [ic]; rw [renL_ro _ _ hVr]; simp -implicitDefEqProofs [go_sem],cloL_ro _ hVr⟩
    ·obtain ⟨h1,h2,h3,h4⟩:=hr p hpm
     refine ⟨h1,?_,h4⟩
     simp -implicitDefEqProofs [go_sem,show p.1<ne+11 by omega,h2,hrr p hpm ne,hfix p hpm]
     exact (i6 _).symm
   simp only at hm1 hm hXl hXt hcl hXj
   obtain ⟨c0,hc00⟩:∃c0,c0=(bd (l.take (k+1+m))).length:=⟨_,rfl⟩
   rw [←hc00] at hXt hcl
   have hWr:roL (X.map pA):=bK _
   have hWg:∀j (h:j<X.length),(X.map pA)[j]'(by rw [List.length_map]; exact h) = .agg (pC X[j]):=fun j h=>by rw [List.getElem_map]; rfl
   have hWl:(X.map pA).length=l.length:=by rw [List.length_map]; exact hXl
   have hXg:∀j (h:j<l.length),k+m≤j→X[j]'(by omega)=l[j]:=fun j h hj=>by
    have:=hXj j hj
    rw [List.getElem?_eq_getElem (by omega),List.getElem?_eq_getElem h] at this
    exact Option.some.inj this
   by_cases c:m<l.length-(k+1)
   ·have d2:k+1+m<l.length:=by omega
    have d3:k+m<l.length:=by omega
    obtain ⟨m,rfl⟩:∃m',m=m'+1:=⟨m-1,by omega⟩
    have c1:(m:Int)+1<((l.length-(k+1):Nat):Int):=by omega
    have g3:=(hWg (k+1+(m+1)) (by omega)).trans (by rw [hXg _ d2 (by omega)])
    have g4:=(hWg (k+1+m) (by omega)).trans (by rw [hXg _ (by omega) (by omega)])
    have b2:k+1+(m+1)<(X.map pA).length:=by omega
    have b3:k+1+m<(X.map pA).length:=by omega
    have w3:IntKind.i64.wrap (m:Int)=m:=by rw [bS (by omega)]
    have w4:IntKind.i64.wrap ((m:Int)+1+1)=(m:Int)+1+1:=by rw [bS (by omega)]
    have hsm2:=hsame (k+1+(m+1)) (k+1+m) d2 (by omega)
    have hct2:=uV (l:=l) (m:=k+1+(m+1)) (by omega) d2
    simp only [show k+1+(m+1)-1=k+1+m by omega] at hct2
    have h02:(0:Int)≤(m:Int)+1:=by omega
    have c2:m+1<l.length-(k+1):=c
    have c3:m<l.length-(k+1):=by omega
    have b4:c0<(X.map pA).length:=by omega
    have b5:(c0:Int)<l.length:=by omega
    have g5:=hWg c0 (by omega)
    have w5:=wT c0 (by omega)
    have hset:(X.map pA).set c0 (.agg (pC l[k+1+(m+1)]))=(X.set c0 l[k+1+(m+1)]).map pA:=by rw [List.map_set]; rfl
    have b6:c0<l.length:=by omega
    have hc01:=hc00.symm
    obtain ⟨W,hW⟩:∃W,X.map pA=W:=⟨_,rfl⟩
    simp only [hW] at hWr hWl g3 g4 g5 b2 b3 b4 hset
    simp -implicitDefEqProofs [go_sem,c1,hc01,hW]
    refine aU (by kernel_rfl) ?_
    simp -implicitDefEqProofs [go_sem,c1,hnb,w3,h02,b2,b3,c2,c3,g3,g4]
    refine aa hsm2 ?_
    by_cases e2:l[k+1+(m+1)]=l[k+1+m]
    ·rw [if_pos e2] at hct2
     simp -implicitDefEqProofs [go_sem,e2,w4]
     refine ae ⟨(X,m+1+1),by omega,by omega,hXl,by rw [show k+1+(m+1+1)=k+1+(m+1)+1 by omega,hct2,←hc00]; exact hXt,by simp only; rw [show k+1+(m+1+1)=k+1+(m+1)+1 by omega,hct2,←hc00]; omega,fun j hj=>hXj j (by simp only at hj; omega)⟩ (by simp only; omega) [] (by simp) (fun _ _ _ _ h=>h) (by simp) (by simp -implicitDefEqProofs [go_sem,hb,show k+1+(m+1+1)=k+1+(m+1)+1 by omega,hct2,hc00]) (fun p hpm=>?_)
     rcases List.mem_cons.1 hpm with rfl|hpm
     ·simp only [hW]
      exact ⟨hb,by simp only [ic]; rw [renL_ro _ _ hWr]; simp -implicitDefEqProofs [go_sem,show b<ne+12 by omega],cloL_ro _ hWr⟩
     ·obtain ⟨h1,h2,h3,h4⟩:=hr p hpm
      refine ⟨h1,?_,h4⟩
      simp -implicitDefEqProofs [go_sem,show p.1<ne+12 by omega,h2,hrr p hpm ne,hfix p hpm]
      exact (i6 _).symm
    ·rw [if_neg e2] at hct2
     have hl2:(bd (l.take (k+1+(m+1))++[])).length=c0:=by rw [List.append_nil]; exact hc00.symm
     simp -implicitDefEqProofs [go_sem,e2,w4,w5,h02,b2,c2,g3,b4,b5,b6,g5,hset]
     have hcl2:(bd (l.take (k+1+(m+1+1)))).length=c0+1:=by rw [show k+1+(m+1+1)=k+1+(m+1)+1 by omega,hct2,List.length_append,←hc00]; rfl
     refine ⟨c1,ae ⟨(X.set c0 l[k+1+(m+1)],m+1+1),by omega,by omega,by rw [List.length_set]; exact hXl,by
      simp only
      rw [hcl2,uK (by omega),hXt,show k+1+(m+1+1)=k+1+(m+1)+1 by omega,hct2],by simp only; omega,fun j hj=>by
      simp only at hj ⊢
      rw [List.getElem?_set_ne (by omega)]
      exact hXj j (by omega)⟩ (by simp only; omega) [] (by simp) (fun _ _ _ _ h=>h) (by simp) (by simp -implicitDefEqProofs [go_sem,hb,hcl2]) (fun p hpm=>?_)⟩
     have hWr2:roL ((X.set c0 l[k+1+(m+1)]).map pA):=bK _
     rcases List.mem_cons.1 hpm with rfl|hpm
     ·simp only
      exact ⟨hb,by simp only [ic]; rw [renL_ro _ _ hWr2]; simp -implicitDefEqProofs [go_sem,show b<ne+12 by omega,hset],cloL_ro _ hWr2⟩
     ·obtain ⟨h1,h2,h3,h4⟩:=hr p hpm
      refine ⟨h1,?_,h4⟩
      simp -implicitDefEqProofs [go_sem,show p.1<ne+12 by omega,h2,hrr p hpm ne,hfix p hpm]
      exact (i6 _).symm
   ·have c1:¬(m:Int)<((l.length-(k+1):Nat):Int):=by omega
    have hmm:k+1+m=l.length:=by omega
    have hc01:=hc00.symm
    rw [hmm,List.take_length] at hXt hc00
    have hWt:(X.map pA).take c0=(bd l).map pA:=by rw [←List.map_take,hXt]
    have b5:(c0:Int)≤l.length:=by omega
    have b6:c0≤l.length:=by omega
    have b7:c0<l.length:=by omega
    have b8:c0≤(X.map pA).length:=by omega
    obtain ⟨W,hW⟩:∃W,X.map pA=W:=⟨_,rfl⟩
    simp only [hW] at hWr hWl hWt b8
    simp -implicitDefEqProofs [go_sem,c1,hc01,hW,b5,b6]
    refine Hv (b:=b) (off:=c0) (len:=l.length-c0) (sz:=6) (sz':=6) (l:=W) Sz rfl SA (by simp -implicitDefEqProofs [go_sem]) (by simp -implicitDefEqProofs [go_sem]) ⟨rfl,by omega,by omega⟩ ?_
    simp -implicitDefEqProofs [go_sem,b5,b6,hWt]
    rw [hc00]
    exact hK _ _ (am _ _ _) (fun p hpm=>by rw [aq _ _ _ (hr p hpm).2.1,aq _ _ _ (hr p hpm).2.1]; exact hrr p hpm ne)
  ·rw [if_neg e] at hct
   simp -implicitDefEqProofs [go_sem,e,w1]
   refine ae ⟨k+1+1,by omega,by omega,by rw [hct,hci,List.take_succ_eq_append_getElem a]⟩ (by simp only; omega) [] (by simp) (fun _ _ _ _ h=>h) (by simp) (by simp -implicitDefEqProofs [go_sem,hb]) (fun p hpm=>?_)
   rcases List.mem_cons.1 hpm with rfl|hpm
   ·exact ⟨hb,by simp only [ic]; rw [renL_ro _ _ hVr]; simp -implicitDefEqProofs [go_sem,show b<ne+11 by omega],cloL_ro _ hVr⟩
   ·obtain ⟨h1,h2,h3,h4⟩:=hr p hpm
    refine ⟨h1,?_,h4⟩
    simp -implicitDefEqProofs [go_sem,show p.1<ne+11 by omega,h2,hrr p hpm ne,hfix p hpm]
    exact (i6 _).symm
 ·have hii:i=l.length:=by omega
  have a1:¬(i:Int)<l.length:=by omega
  have e:bd l=l:=by have:=hci; rw [hii,List.take_length] at this; exact this
  simp -implicitDefEqProofs [go_sem,a1]
  rw [e] at hK
  exact hK _ _ (by rw [←hV,am]) (fun p hpm=>by rw [aq _ _ _ (hr p hpm).2.1]; exact hrr p hpm ne)
def fK (l:List PR):AV := .sl 6 false (l.map PR.av)
theorem iR (l:List PR):roL (l.map PR.av):=dq ju
theorem jS (l:List PR):ro (fK l):=by unfold fK; simp only [ro]; exact iR l
def nL (l:List PR) (i:Nat):List AV:=((l.take i).map fun p=>pA p.val)++(l.drop i).map PR.av
theorem xI (l:List PR) (i:Nat):(nL l i).length=l.length:=by unfold nL; simp; omega
theorem HX (l:List PR) (i:Nat):roL (nL l i):=by
 unfold nL
 refine aF.2 ⟨?_,iR _⟩
 exact dq fun p=>iU _
theorem JQ {l:List PR} {i:Nat} (h:i<l.length):(nL l i)[i]'(by rw [xI]; exact h) = .agg l[i].cs:=by
 unfold nL
 rw [List.getElem_append_right (by simp; omega)]
 simp [PR.av_cs,Nat.min_eq_left (Nat.le_of_lt h)]
theorem JS {l:List PR} {i:Nat} (h:i<l.length):(nL l i).set i (pA l[i].val)=nL l (i+1):=by
 unfold nL
 have hA:((l.take i).map fun p=>pA p.val).length=i:=by simp; omega
 rw [List.set_append_right _ _ (by omega),hA,Nat.sub_self,List.drop_eq_getElem_cons h,List.map_cons,List.set_cons_zero,List.take_succ_eq_append_getElem h,List.map_append,List.append_assoc]
 rfl
theorem JP (l:List PR):nL l l.length=(l.map PR.val).map pA:=by
 unfold nL; simp
theorem sr {f m:Nat} {C:List PQ} (hm:m≤C.length) (h1:1<m) (he:C[0]'(by omega)=C[m-1]'(by omega)):gM (f+1) (C.take m)=gM f (C.take (m-1)):=by
 have hl:(C.take m).length=m:=by rw [List.length_take]; omega
 have e1:(C.take m).head?=some (C[0]'(by omega)):=by rw [List.head?_eq_getElem?,List.getElem?_take_of_lt (by omega),List.getElem?_eq_getElem (by omega)]
 have e2:(C.take m).getLast?=some (C[m-1]'(by omega)):=by rw [List.getLast?_eq_getElem?,hl,List.getElem?_take_of_lt (by omega),List.getElem?_eq_getElem (by omega)]
 rw [gM,if_pos ⟨by omega,by rw [e1,e2,he]⟩,List.dropLast_eq_take,hl,List.take_take,Nat.min_eq_left (by omega)]
theorem kP {f m:Nat} {C:List PQ} (hm:m≤C.length) (h:¬(1<m∧∀(_:1<m),C[0]'(by omega)=C[m-1]'(by omega))):gM f (C.take m)=C.take m:=by
 cases f with
 | zero=>rfl
 | succ f =>
  have hl:(C.take m).length=m:=by rw [List.length_take]; omega
  rw [gM,if_neg]
  rintro ⟨h1,h2⟩
  refine h ⟨by omega,fun h1=>?_⟩
  have e1:(C.take m).head?=some (C[0]'(by omega)):=by rw [List.head?_eq_getElem?,List.getElem?_take_of_lt (by omega),List.getElem?_eq_getElem (by omega)]
  have e2:(C.take m).getLast?=some (C[m-1]'(by omega)):=by rw [List.getLast?_eq_getElem?,hl,List.getElem?_take_of_lt (by omega),List.getElem?_eq_getElem (by omega)]
  rw [e1,e2] at h2
  exact Option.some.inj h2
theorem AU (l:List PR) (closed:Bool) (hl:l.length≤1048576) (hs:∀p∈l,p.In 1000):ag Tryz.prog 106 [.agg [fK l,.bool closed]] (pL (bp (l.map PR.val) closed)):=by
 have hgood:=fun (p:PR) (hp:p.In 1000)=>nS p hp.mono
 have hv:∀p∈l.map PR.val,p.sz≤1000000:=fun p hp=>by
  obtain ⟨q,hq,rfl⟩:=List.mem_map.1 hp
  have:=(hs q hq).sz
  omega
 have hcl:(bd (l.map PR.val)).length≤l.length:=by have:=j3 (l.map PR.val); rwa [List.length_map] at this
 obtain ⟨V,hV⟩:∃V,V=l.map PR.av:=⟨_,rfl⟩
 have hVl:V.length=l.length:=by rw [hV]; simp
 have hVr:roL V:=by rw [hV]; exact iR _
 have hm0:nL l 0=V:=by unfold nL; simp [hV]
 refine ag.of_ca (iV _) (Cz Tryz.func106 rfl [.tmp 2] rfl ?_)
 unfold fK
 rw [←hV]
 simp -implicitDefEqProofs [go_sem,hVr]
 refine Cz Tryz.func176 rfl [.tmp 2] rfl ?_
 by_cases hne:l=[]
 ·have hV0:V=[]:=by rw [hV,hne]; rfl
  have hq:bp (l.map PR.val) closed=[]:=by rw [hne]; cases closed<;>rfl
  have c2:¬(1:Int)<0:=by omega
  rw [hq,hV0]
  simp -implicitDefEqProofs [go_sem]
  refine ⟨?_,?_⟩
  ·refine ap 1 (α:=Unit) (fun _=>[(1,.ptr 0 0 0),(3,.sl 0 true []),(10,.int .i64 0),(11,.int .i64 0)]) (fun _=>[(0,.live 2 [.agg [.sl 6 false [],.bool closed]])]) (fun _=>0) () [] (by simp) (fun _ _ _ _ h=>h) (by simp) (by simp -implicitDefEqProofs [go_sem]) (by simp -implicitDefEqProofs [go_sem]) fun _=>?_
   simp -implicitDefEqProofs [go_sem]
   refine Cz Tryz.func147 rfl [.tmp 4] rfl ?_
   simp -implicitDefEqProofs [go_sem]
   refine ap 1 (α:=Unit) (fun _=>[(1,.ptr 0 0 0),(3,.sl 0 true [])]) (fun _=>[(0,.live 2 [.agg [.sl 6 false [],.bool closed]])]) (fun _=>0) () [] (by simp) (fun _ _ _ _ h=>h) (by simp) (by simp -implicitDefEqProofs [go_sem]) (by simp -implicitDefEqProofs [go_sem]) fun _=>?_
   simp -implicitDefEqProofs [go_sem]
   refine aU (by kernel_rfl) ?_
   cases closed
   ·simp -implicitDefEqProofs [go_sem]
    exact Wk.nil 0 6 true
   ·simp -implicitDefEqProofs [go_sem,c2]
    exact Wk.nil 0 6 true
  ·refine ap 3 (α:=Unit) (fun _=>[(1,.ptr 0 0 0),(3,.own 6 2 0 0),(10,.int .i64 0),(11,.int .i64 0)]) (fun _=>[(0,.live 2 [.agg [.sl 6 false [],.bool closed]]),(2,.live 6 [])]) (fun _=>0) () [] (by simp) (fun _ _ _ _ h=>h) (by simp) (by simp -implicitDefEqProofs [go_sem]) (by simp -implicitDefEqProofs [go_sem]) fun _=>?_
   simp -implicitDefEqProofs [go_sem]
   refine Cz Tryz.func147 rfl [.tmp 4] rfl ?_
   simp -implicitDefEqProofs [go_sem]
   refine ap 3 (α:=Unit) (fun _=>[(1,.ptr 0 0 0),(3,.own 6 2 0 0)]) (fun _=>[(0,.live 2 [.agg [.sl 6 false [],.bool closed]]),(2,.live 6 [])]) (fun _=>0) () [] (by simp) (fun _ _ _ _ h=>h) (by simp) (by simp -implicitDefEqProofs [go_sem]) (by simp -implicitDefEqProofs [go_sem]) fun _=>?_
   simp -implicitDefEqProofs [go_sem]
   refine aU (by kernel_rfl) ?_
   cases closed
   ·simp -implicitDefEqProofs [go_sem]
    exact Wk.refl _
   ·simp -implicitDefEqProofs [go_sem,c2]
    exact Wk.refl _
 ·have hVn:V≠[]:=by rw [hV]; simpa using hne
  simp -implicitDefEqProofs [go_sem,hVn]
  have w0:=bS (x:=(V.length:Int))
  refine ⟨by omega,?_⟩
  have hbox:ro (.agg [.sl 6 false V,.bool closed]):=by simp only [ro,roL]; exact ⟨hVr,trivial,trivial⟩
  have hbx:roL [.agg [.sl 6 false V,.bool closed]]:=by simp only [roL]; exact ⟨hbox,trivial⟩
  refine ap 3 (α:={i:Nat // i≤l.length}) (fun i=>[(1,.ptr 0 0 0),(3,.own 6 2 0 V.length),(9,.own 6 2 0 V.length),(10,.int .i64 V.length),(11,.int .i64 i.1)])
   (fun i=>[(0,.live 2 [.agg [.sl 6 false V,.bool closed]]),(2,.live 6 (nL l i.1))]) (fun i=>l.length-i.1) ⟨0,Nat.zero_le _⟩ [] (by simp) (fun _ _ _ _ h=>h) (by simp) (by simp -implicitDefEqProofs [go_sem]) (by simp -implicitDefEqProofs [go_sem,hm0,renL_ro (nm []) _ hVr,cloL_ro (n:=3) _ hVr]) fun ⟨i,hi⟩=>?_
  have hMl:=xI l i
  have hMr:=HX l i
  by_cases a:i<l.length
  ·have a1:(i:Int)<V.length:=by omega
   have a2:i<(nL l i).length:=by omega
   have a3:i<V.length:=by omega
   have hg:=JQ a
   have hst:=JS a
   have hMr2:=HX l (i+1)
   have hMl2:=xI l (i+1)
   have kx:=hgood l[i] (hs _ (List.getElem_mem a))
   have es:=wS i (by omega)
   have cs6:l[i].cs.length=6:=rfl
   have ct6:l[i].cs.take 6=l[i].cs:=rfl
   have cd6:l[i].cs.drop 6=[]:=rfl
   have cro:=l[i].ro_cs
   rw [PR.av_cs] at kx
   rw [aQ] at kx hst
   generalize l[i].val=q at *
   generalize l[i].cs=S at *
   simp -implicitDefEqProofs [go_sem,a1,a2,a3,hg,cs6,ct6,cro]
   refine ah _ kx (by simp [go_sem,cro]) ?_
   simp -implicitDefEqProofs [go_sem,a1,a2,a3,hg,hst,cs6,cd6,es]
   exact ae ⟨i+1,by omega⟩ (by simp only; omega) [] (by simp) (fun _ _ _ _ h=>h) (by simp) (by simp -implicitDefEqProofs [go_sem]) (by simp -implicitDefEqProofs [go_sem,renL_ro (nm []) _ hVr,cloL_ro (n:=3) _ hVr,renL_ro (nm []) _ hMr2,cloL_ro (n:=3) _ hMr2])
  ·have a1:¬(i:Int)<V.length:=by omega
   have hii:i=l.length:=by omega
   have hme:=JP l
   rw [←hii] at hme
   have hLl:(l.map PR.val).length=l.length:=by simp
   simp -implicitDefEqProofs [go_sem,a1]
   rw [show V.length=(l.map PR.val).length by rw [hVl,hLl],hme]
   generalize hL:l.map PR.val=L at *
   refine BE L (by omega) hv 2 3 (by omega) _ [(0,.live 2 [.agg [.sl 6 false V,.bool closed]])] _ (by simp -implicitDefEqProofs [go_sem]) (by simp -implicitDefEqProofs [go_sem,cloL_ro (n:=3) _ hVr]) (by simp -implicitDefEqProofs [go_sem]) fun f' n' h2 h0=>?_
   have h0:=h0 _ List.mem_cons_self
   simp only at h0
   generalize hC:bd L=C at *
   have hCl:C.length≤1048576:=by omega
   have hWr:roL (C.map pA):=bK _
   have hWl:(C.map pA).length=C.length:=by simp
   obtain ⟨W,hW⟩:∃W,W=C.map pA:=⟨_,rfl⟩
   rw [←hW] at h2 hWr hWl
   have hWg:∀j (h:j<C.length),W[j]'(by omega) = .agg (pC C[j]):=fun j h=>by subst hW; rw [List.getElem_map]; rfl
   have hWt:∀m,W.take m=(C.take m).map pA:=fun m=>by rw [hW,List.map_take]
   simp -implicitDefEqProofs [go_sem]
   refine ap 3 (α:={p:Nat×Nat // p.1≤C.length∧p.1≤p.2∧(closed=true→bp L closed=gM p.2 (C.take p.1))∧(closed=false→p.1=C.length)}) (fun p=>[(1,.ptr 0 0 0),(3,.own 6 2 0 p.1.1)])
    (fun p=>[(0,.live 2 [.agg [.sl 6 false V,.bool closed]]),(2,.live 6 W)]) (fun p=>p.1.1) ⟨(C.length,L.length),Nat.le_refl _,by omega,fun h=>by rw [List.take_length,←hC]; unfold bp; rw [if_pos h],fun _=>rfl⟩ [] (by simp) (fun _ _ _ _ h=>h) (by simp) (by simp -implicitDefEqProofs [go_sem]) (by simp -implicitDefEqProofs [go_sem,h0,h2,renL_ro (nm []) _ hVr,cloL_ro (n:=3) _ hVr,renL_ro (nm []) _ hWr,cloL_ro (n:=3) _ hWr]) fun ⟨(m,g),hm,hmg,htr,hcf⟩=>?_
   simp only at hm hmg htr hcf
   cases closed
   ·have e:=hcf rfl
    subst e
    simp -implicitDefEqProofs [go_sem]
    refine aU (by kernel_rfl) ?_
    simp -implicitDefEqProofs [go_sem]
    refine ⟨by omega,bV hWr,?_⟩
    rw [hWt,List.take_length]
    unfold bp
    rw [if_neg (by decide),hC]
    exact Wk.refl _
   ·have htr:=htr rfl
    have wkm:Wk (.sl 6 false (W.take m)) (pL (C.take m)):=by rw [hWt]; exact Wk.refl _
    by_cases c1:1<m
    ·obtain ⟨k,rfl⟩:∃k,m=k+1:=⟨m-1,by omega⟩
     have c2:(1:Int)<(k:Int)+1:=by omega
     have b0:0<W.length:=by omega
     have b1:k<W.length:=by omega
     have g0:=hWg 0 (by omega)
     have g1:=hWg k (by omega)
     have hC':∀p∈C,p.sz≤1000000:=fun p hp=>hv p (by rw [←hC] at hp; exact oq _ p hp)
     have z0:=hC' _ (List.getElem_mem (show 0<C.length by omega))
     have z1:=hC' _ (List.getElem_mem (show k<C.length by omega))
     have ksm:ag Tryz.prog 33 [.agg (pC (C[0]'(by omega))),.agg (pC (C[k]'(by omega)))] (.bool (decide (C[0]'(by omega)=C[k]'(by omega)))):=jJ _ _ (by omega) (by omega)
     have w1:IntKind.i64.wrap (k:Int)=k:=by rw [bS (by omega)]
     have c3:(0:Int)<(k:Int)+1:=by omega
     have hk1:1≤k:=by omega
     have c4:(k:Int)<(k:Int)+1:=by omega
     have hkl:(k:Int)≤(k:Int)+1:=by omega
     have hkn:k≤W.length:=by omega
     by_cases e:C[0]'(by omega)=C[k]'(by omega)
     ·have hst:=sr (f:=g-1) hm c1 (by simpa using e)
      rw [show g-1+1=g by omega,Nat.add_sub_cancel] at hst
      rw [hst] at htr
      simp -implicitDefEqProofs [go_sem]
      refine aU (by kernel_rfl) ?_
      simp -implicitDefEqProofs [go_sem,c2,c3,c4,b0,b1,g0,g1,w1]
      refine aa ksm ?_
      simp -implicitDefEqProofs [go_sem,e,c2,c3,w1,hkl,hkn]
      exact ae ⟨(k,g-1),by omega,by omega,fun _=>htr,fun h=>by cases h⟩ (by simp only; omega) [] (by simp) (fun _ _ _ _ h=>h) (by simp) (by simp -implicitDefEqProofs [go_sem]) (by simp -implicitDefEqProofs [go_sem,hW,renL_ro (nm []) _ hVr,cloL_ro (n:=3) _ hVr,renL_ro (nm []) _ hWr,cloL_ro (n:=3) _ hWr])
     ·have hst:=kP (f:=g) hm (fun h=>e (by simpa using h.2 h.1))
      rw [hst] at htr
      rw [←htr] at wkm
      simp -implicitDefEqProofs [go_sem]
      refine aU (by kernel_rfl) ?_
      simp -implicitDefEqProofs [go_sem,c2,c3,c4,b0,b1,g0,g1,w1]
      refine aa ksm ?_
      simp -implicitDefEqProofs [go_sem,e,c2,c3,w1,hm]
      exact ⟨by omega,bV hWr,wkm⟩
    ·have c2:¬(1:Int)<(m:Int):=by omega
     have hst:=kP (f:=g) hm (fun h=>c1 h.1)
     rw [hst] at htr
     rw [←htr] at wkm
     simp -implicitDefEqProofs [go_sem]
     refine aU (by kernel_rfl) ?_
     simp -implicitDefEqProofs [go_sem,c2]
     exact ⟨by omega,bV hWr,wkm⟩
theorem dM {α:Type} {g:α→AV} {l:List α} {i:Nat} (h:i<l.length):bU (l.map g) (i:Int)=g l[i]:=by
 unfold bU
 rw [Int.toNat_natCast,List.getD_eq_getElem?_getD,List.getElem?_map,List.getElem?_eq_getElem h]; rfl
theorem YA.of_fresh {P:Program} {id:Nat} {args:List AV} {f:Nat→BS} {n:Nat} {K:AV→(Nat→BS)→Nat→Prop} (h:(∀j,f j = .fresh↔n≤j)→YA P id args f n K):YA P id args f n K :=
 fun c vs l h1 h2 h3 h4 h5=>h h2 c vs l h1 h2 h3 h4 h5
theorem CA.pad {P:Program} {g:FuncId} {args:List AV} {f:Nat→BS} {n:Nat} {K:AV→(Nat→BS)→Nat→Prop} (N:Nat) (h:CA P g args f n fun r f' n'=>n'≤N∧K r (dB N f') N):CA P g args f n K:=by
 intro c vs h1 h2 h3
 refine (h c vs h1 h2 h3).mono fun v w' ⟨c',r,f',n',q1,⟨q0,q2⟩,q3,q4,q5,q6,q7⟩=>?_
 exact ⟨c'.past N,r,_,N,q1,q2,q3.past fun j hj=>(q7 j).2 (by omega),q4.keep (Stp.past c' N) q3.shut,q5.trans (Stp.past c' N),by omega,lD fun j hj=>(q7 j).2 (by omega)⟩
mutual
theorem LE (g:Nat) (R:List AV):∀a:AV,ro a→vp g R a=a
 | .ptr _ _ _,h=>by simp only [ro] at h
 | .agg cs,h=>by simp only [ro] at h; simp only [vp,frdL_ro g R cs h]
 | .tup cs,h=>by simp only [ro] at h; simp only [vp,frdL_ro g R cs h]
 | .fn _ fs cap,h=>by simp only [ro] at h; simp only [vp,frdL_ro g R fs h.1,frdL_ro g R cap h.2]
 | .any,_=>rfl
 | .bool _,_=>rfl
 | .int _ _,_=>rfl
 | .str _,_=>rfl
 | .sl _ _ _,_=>rfl
 | .own _ _ _ _,_=>rfl
 | .rp _,_=>rfl
 | .yld _,_=>rfl
 | .mp _,_=>rfl
 | .nilp,_=>rfl
theorem frdL_ro (g:Nat) (R:List AV):∀l:List AV,roL l→frdL g R l=l
 | [],_=>rfl
 | a::l,h=>by simp only [roL] at h; simp only [frdL,LE g R a h.1,frdL_ro g R l h.2]
end
theorem PI (c:List PQ) (closed:Bool) (S:List AV) (hS:roL S) (slen:S.length=11) (hc:2≤c.length) (hc16:c.length≤16) (f:Nat→BS) (K:AV→(Nat→BS)→Nat→Prop) (hf2:f 2 = .live 1 [.sl 0 true []]) (hf3:f 3 = .live 1 [.int .i64 0])
 (hK:∀f':Nat→BS,f' 2 = .live 1 [.sl 0 true []]→f' 3 = .live 1 [.int .i64 0]→K (.fn (.func 183) [] [.rp [.int .i64 (aG c.length closed:Nat)],.rp [fQ c],.rp S,.rp [.int .i64 (iG closed:Nat)],.rp [kU c],.rp [.bool closed],.rp [.int .i64 c.length]]) f' 20) :
 CA Tryz.prog 110 [pL c,.bool closed,.agg S] f 5 K:=by
 have wn:IntKind.i64.wrap ((c.length:Int)-1)=(c.length:Int)-1:=by rw [bS (by omega)]
 have e1:((aG c.length false:Nat):Int)=(c.length:Int)-1:=by rw [show aG c.length false=c.length-1 from rfl]; omega
 have hSf:=fun g R=>frdL_ro g R S hS
 refine CA.frz [5,8,9,10,14,7,13,6] (CA.pad 20 ?_)
 refine Cz Tryz.func110 rfl [.tmp 6] rfl ?_
 unfold pL
 simp -implicitDefEqProofs [go_sem,slen]
 refine vu (by kernel_rfl) ?_
 simp -implicitDefEqProofs [go_sem,wn,KM,Gq]
 cases closed
 ·simp -implicitDefEqProofs [go_sem]
  refine ⟨1,pL c,by unfold pL; simp -implicitDefEqProofs [go_sem],by simp only [pL,AV.cells]; simp -implicitDefEqProofs [go_sem],1,.int .i64 c.length,by simp -implicitDefEqProofs [go_sem],by simp -implicitDefEqProofs [go_sem,AV.cells],1,fQ c,by unfold fQ pL; simp -implicitDefEqProofs [go_sem,AV.cells],by unfold fQ pL; simp -implicitDefEqProofs [go_sem,AV.cells],1,kU c,by unfold kU fQ pL; simp -implicitDefEqProofs [go_sem,AV.cells],by unfold kU fQ pL; simp -implicitDefEqProofs [go_sem,AV.cells],1,.int .i64 ((c.length:Int)-1),by simp -implicitDefEqProofs [go_sem],by simp -implicitDefEqProofs [go_sem,AV.cells],11,.agg S,by simp -implicitDefEqProofs [go_sem,hSf],by simp -implicitDefEqProofs [go_sem,AV.cells,hS],1,.int .i64 1,by simp -implicitDefEqProofs [go_sem],by simp -implicitDefEqProofs [go_sem,AV.cells],1,.bool false,by simp -implicitDefEqProofs [go_sem],by simp -implicitDefEqProofs [go_sem,AV.cells],?_⟩
  rw [e1] at hK
  unfold kU fQ pL at *
  simp -implicitDefEqProofs [go_sem,AV.cells]
  refine hK _ ?_ ?_<;>simp -implicitDefEqProofs [go_sem,hf2,hf3]
 ·simp -implicitDefEqProofs [go_sem]
  refine L2 (x1:=10) (x2:=11) (a:=7) (d:=19) rfl rfl rfl (by kernel_rfl) Ud rfl rfl (by decide) (i:=8) (j1:=13) (j2:=14) (s:=1) (s1:=1) (s2:=1) (v := .int .i64 c.length) (w1 := .int .i64 1) (w2 := .int .i64 ((c.length:Int)-1)) (by simp -implicitDefEqProofs [go_sem]) (by simp -implicitDefEqProofs [go_sem]) (by simp -implicitDefEqProofs [go_sem]) (by omega) (by decide) (by simp -implicitDefEqProofs [go_sem]) (by simp -implicitDefEqProofs [go_sem]) (by simp -implicitDefEqProofs [go_sem]) rfl (cv := .int .i64 0) rfl rfl rfl (by simp -implicitDefEqProofs [go_sem]) ?_
  simp -implicitDefEqProofs [go_sem]
  refine ⟨1,pL c,by unfold pL; simp -implicitDefEqProofs [go_sem],by simp only [pL,AV.cells]; simp -implicitDefEqProofs [go_sem],1,.int .i64 c.length,by simp -implicitDefEqProofs [go_sem],by simp -implicitDefEqProofs [go_sem,AV.cells],1,fQ c,by unfold fQ pL; simp -implicitDefEqProofs [go_sem,AV.cells],by unfold fQ pL; simp -implicitDefEqProofs [go_sem,AV.cells],1,kU c,by unfold kU fQ pL; simp -implicitDefEqProofs [go_sem,AV.cells],by unfold kU fQ pL; simp -implicitDefEqProofs [go_sem,AV.cells],1,.int .i64 (c.length:Int),by simp -implicitDefEqProofs [go_sem],by simp -implicitDefEqProofs [go_sem,AV.cells],11,.agg S,by simp -implicitDefEqProofs [go_sem,hSf],by simp -implicitDefEqProofs [go_sem,AV.cells,hS],1,.int .i64 0,by simp -implicitDefEqProofs [go_sem],by simp -implicitDefEqProofs [go_sem,AV.cells],1,.bool true,by simp -implicitDefEqProofs [go_sem],by simp -implicitDefEqProofs [go_sem,AV.cells],?_⟩
  unfold kU fQ pL at *
  simp -implicitDefEqProofs [go_sem,AV.cells]
  refine hK _ ?_ ?_<;>simp -implicitDefEqProofs [go_sem,hf2,hf3]
open Go Go.Proofs
set_option linter.unusedSimpArgs false
set_option linter.unusedVariables false
set_option maxRecDepth 20000
def yq (L:List (List PQ)):AV := .sl 1 false (L.map pL)
theorem ma (L:List (List PQ)):roL (L.map pL):=dq iV
theorem qf (L:List (List PQ)):ro (yq L):=by unfold yq; simp only [ro]; exact ma L
def qO (x:List (List PQ)×Int):AV := .tup [yq x.1,.int .i64 x.2]
theorem Kg (x:List (List PQ)×Int):ro (qO x):=by unfold qO; simp only [ro,roL]; exact ⟨qf _,trivial,trivial⟩
theorem mQ (e:Int):Wk (.tup [.sl 0 true [],.int .i64 e]) (qO ([],e)):=Wk.tup (.cons (Wk.nil 0 1 true) (.cons (Wk.refl _) .nil))
def c9 (l:List PQ) (closed:Bool) (s:SR):List (List PQ)×Int :=
 if s.width.val≤0 then ([],0) else if ¬qL s then ([],1) else if bp l closed=[] then ([],0) else aD (iz (bp l closed) closed s)
theorem G6 {L:List (List PQ×Int)} {k:Nat} (h:k<L.length):aD (L.take (k+1))=if (aD (L.take k)).2≠0 then aD (L.take k) else if (L.getD k ([],0)).2≠0 then ([],(L.getD k ([],0)).2) else ((aD (L.take k)).1++(if (L.getD k ([],0)).1=[] then [] else [(L.getD k ([],0)).1]),0):=by
 rw [List.take_succ_eq_append_getElem h,sR,List.getD_eq_getElem?_getD,List.getElem?_eq_getElem h,Option.getD_some]
theorem BZ {L:List (List PQ×Int)} {k:Nat} (h:k<L.length) (h0:(aD (L.take k)).2=0) (he:(L.getD k ([],0)).2≠0):aD L=([],(L.getD k ([],0)).2):=by
 rw [List.getD_eq_getElem?_getD,List.getElem?_eq_getElem h,Option.getD_some] at *
 conv=>lhs; rw [←List.take_append_drop k L,List.drop_eq_getElem_cons h]
 exact EW h0 he
theorem j6:∀L:List (List PQ×Int),(aD L).1.length≤L.length
 | []=>Nat.le_refl _
 | (l,e)::r=>by
  have ih:=j6 r
  simp only [aD]
  split
  ·simp
  split
  ·simp
  split
  ·simp only [List.length_cons]; omega
  ·simp only [List.length_cons]; omega
def KR (V:List AV) (m:Int) (r:Loop) (T:Nat→AV):List (Nat×BS):=[(2,.live 1 [.sl 0 true []]),(3,.live 1 [.int .i64 0]),(20,.live 1 [di 1 23 V]),(21,.live 1 [.int .i64 m]),(22,.obj (.loop r) T)]++cR 1 23 V
theorem L9 {V:List AV} {m:Int} {r:Loop} {T:Nat→AV}:∀p∈KR V m r T,∀N,hp N (KR V m r T) p.1=p.2:=by
 intro p hpm N
 unfold KR at hpm ⊢
 by_cases hV:V=[]
 ·subst hV
  simp only [cR,if_true,List.append_nil,List.mem_cons,List.not_mem_nil,or_false] at hpm ⊢
  rcases hpm with rfl|rfl|rfl|rfl|rfl<;>simp -implicitDefEqProofs [go_sem]
 ·rw [aC hV] at hpm ⊢
  simp only [List.cons_append,List.nil_append,List.mem_cons,List.not_mem_nil,or_false] at hpm ⊢
  rcases hpm with rfl|rfl|rfl|rfl|rfl|rfl<;>simp -implicitDefEqProofs [go_sem]
theorem JH {V:List AV} (hro:roL V) {m:Int} {r:Loop} {T:Nat→AV}:∀p∈KR V m r T,p.1<24∧gR 23 24 p:=by
 intro p hpm
 unfold KR at hpm
 have hc:=cloL_ro (n:=24) _ hro
 by_cases hV:V=[]
 ·subst hV
  simp only [cR,if_true,List.append_nil,List.mem_cons,List.not_mem_nil,or_false] at hpm
  rcases hpm with rfl|rfl|rfl|rfl|rfl<;>simp -implicitDefEqProofs [go_sem,di]
 ·rw [aC hV,aV hV] at hpm
  simp only [List.cons_append,List.nil_append,List.mem_cons,List.not_mem_nil,or_false] at hpm
  rcases hpm with rfl|rfl|rfl|rfl|rfl|rfl<;>simp -implicitDefEqProofs [go_sem,hc]
theorem oI {V:List AV} (hro:roL V) {m:Int} {r:Loop} {T:Nat→AV} {a:Nat} {f:Nat→BS}:od 23 24 23 (KR V m r T) a f↔(f 2 = .live 1 [.sl 0 true []]∧f 3 = .live 1 [.int .i64 0]∧f 20 = .live 1 [di 1 a V]∧f 21 = .live 1 [.int .i64 m]∧f 22 = .obj (.loop r) T∧(V≠[]→f a = .live 1 V∧a≠2∧a≠3∧a≠20∧a≠21∧a≠22)):=by
 have hr:=renL_ro (nm [(23,a)]) _ hro
 have hc:=cloL_ro (n:=24) _ hro
 unfold od KR
 by_cases hV:V=[]
 ·subst hV
  simp -implicitDefEqProofs [go_sem,cR,di]
 ·rw [aC hV,aV hV,aV hV]
  constructor
  ·rintro ⟨h1,h2⟩
   have g:=fun p hp=>(h2 p hp).2.1
   have m1:=List.Mem.head (α:=Nat×BS) (a:=(2,.live 1 [.sl 0 true []])) ([(3,.live 1 [.int .i64 0]),(20,.live 1 [.own 1 23 0 V.length]),(21,.live 1 [.int .i64 m]),(22,.obj (.loop r) T)]++[(23,.live 1 V)])
   have k1:=g _ m1
   have k2:=g _ (.tail _ (.head _))
   have k3:=g _ (.tail _ (.tail _ (.head _)))
   have k4:=g _ (.tail _ (.tail _ (.tail _ (.head _))))
   have k5:=g _ (.tail _ (.tail _ (.tail _ (.tail _ (.head _)))))
   have m6:=List.Mem.tail (α:=Nat×BS) (2,.live 1 [.sl 0 true []]) (.tail (3,.live 1 [.int .i64 0]) (.tail (20,.live 1 [.own 1 23 0 V.length]) (.tail (21,.live 1 [.int .i64 m]) (.tail (22,.obj (.loop r) T) (.head (a:=(23,.live 1 V)) [])))))
   have k6:=g _ m6
   have d:=fun q hq=>h1 _ m6 q hq
   have d1:=d _ m1
   have d2:=d _ (.tail _ (.head _))
   have d3:=d _ (.tail _ (.tail _ (.head _)))
   have d4:=d _ (.tail _ (.tail _ (.tail _ (.head _))))
   have d5:=d _ (.tail _ (.tail _ (.tail _ (.tail _ (.head _)))))
   simp -implicitDefEqProofs [go_sem,hr] at k1 k2 k3 k4 k5 k6 d1 d2 d3 d4 d5
   exact ⟨k1,k2,k3,k4,k5,fun _=>⟨k6,d1,d2,d3,d4,d5⟩⟩
  ·rintro ⟨h1,h2,h3,h4,h5,h6⟩
   obtain ⟨h6,h7,h8,h9,h10,h11⟩:=h6 hV
   refine ⟨fun p hpm q hqm e=>?_,fun p hpm=>?_⟩
   ·simp only [List.cons_append,List.nil_append,List.mem_cons,List.not_mem_nil,or_false] at hpm hqm
    rcases hpm with rfl|rfl|rfl|rfl|rfl|rfl<;>rcases hqm with rfl|rfl|rfl|rfl|rfl|rfl<;>first|rfl|(exfalso; simp -implicitDefEqProofs [go_sem] at e; omega)|(exfalso; simp -implicitDefEqProofs [go_sem] at e)
   ·simp only [List.cons_append,List.nil_append,List.mem_cons,List.not_mem_nil,or_false] at hpm
    rcases hpm with rfl|rfl|rfl|rfl|rfl|rfl<;>simp -implicitDefEqProofs [go_sem,h1,h2,h3,h4,h5,h6,hr,hc]
theorem eE (l:List PR) (closed:Bool) (s:SR) (hl:l.length≤16) (hp1:∀p∈l,p.In 1) (hcy:yn qI (l.map PR.val)) (hi:s.In 1048576) (hs:l≠[]→s.Sml):ag Tryz.prog 40 [.agg [fK l,.bool closed],s.av] (qO (c9 (l.map PR.val) closed s)):=by
 have g1:=bI s.width hi.width.sm.ok
 have z1:=bR (x:=s.width.val)
 have g2:=F8 s hi
 have g3:=AU l closed (by omega) (fun p hp=>(hp1 p hp).mono)
 have hcl:=ja (l.map PR.val) closed
 rw [List.length_map] at hcl
 have hcz:∀p∈bp (l.map PR.val) closed,p.sz≤1:=fun p hp=>by
  obtain ⟨q,hq,rfl⟩:=List.mem_map.1 (gO _ _ p hp)
  exact (hp1 q hq).sz
 have hcc:=pM closed hcy
 have hs:bp (l.map PR.val) closed≠[]→s.Sml:=fun h=>hs fun e=>h (by rw [e]; cases closed<;>rfl)
 have hX':c9 (l.map PR.val) closed s=if s.width.val≤0 then ([],0) else if ¬qL s then ([],1) else if bp (l.map PR.val) closed=[] then ([],0) else aD (iz (bp (l.map PR.val) closed) closed s):=rfl
 generalize c9 (l.map PR.val) closed s=X at *
 generalize bp (l.map PR.val) closed=c at *
 have sro:=s.ro_cs
 have slen:s.cs.length=11:=rfl
 have stk:s.cs.take 11=s.cs:=rfl
 have stk3:s.cs.take 3=s.width.cells:=rfl
 have rpr:=jS l
 have wro:roL s.width.cells:=by have:=wc s.width; rw [show s.width.av = .agg s.width.cells from rfl] at this; simpa only [ro] using this
 refine ag.of_ca (Kg _) (Cz Tryz.func40 rfl [.cell 4 92,.cell 5 33] rfl ?_)
 have hsav:s.av = .agg s.cs:=rfl
 have hwav:s.width.av = .agg s.width.cells:=rfl
 rw [hsav] at g2 ⊢
 rw [hwav] at g1
 generalize hSS:s.cs=S at *
 generalize fK l=PL at *
 generalize hWW:s.width.cells=WW at *
 generalize aM s.width.val=s1 at *
 simp -implicitDefEqProofs [go_sem,slen,stk,stk3,rpr,sro]
 refine ah _ g1 (by simp [go_sem,wro]) ?_
 by_cases a1:s1≤0
 ·rw [if_pos (z1.1 a1)] at hX'
  rw [hX']
  simp -implicitDefEqProofs [go_sem,a1,aL]
  exact mQ 0
 rw [if_neg (fun h=>a1 (z1.2 h))] at hX'
 simp -implicitDefEqProofs [go_sem,a1,slen,stk]
 refine ah _ g2 (by simp [go_sem,sro]) ?_
 by_cases a2:qL s
 rotate_left
 ·rw [if_pos a2] at hX'
  rw [hX']
  simp -implicitDefEqProofs [go_sem,a2,aL]
  exact mQ 1
 rw [if_neg (fun h=>h a2)] at hX'
 simp -implicitDefEqProofs [go_sem,a2]
 refine ah _ g3 (by simp [go_sem,rpr]) ?_
 unfold pL
 by_cases a3:c=[]
 ·rw [if_pos a3] at hX'
  rw [hX']
  simp -implicitDefEqProofs [go_sem,a3,aL]
  exact mQ 0
 rw [if_neg a3] at hX'
 have hS:=hs a3
 have hn0:0<c.length:=by have:=mt List.length_eq_zero_iff.1 a3; omega
 have a4:¬(c.length:Int)=0:=by omega
 by_cases a5:1<c.length
 ·have a6:(1:Int)<c.length:=by omega
  have a7:¬(c.length:Int)≤1:=by omega
  have wn:IntKind.i64.wrap ((c.length:Int)-1)=(c.length:Int)-1:=by rw [bS (by omega)]
  simp -implicitDefEqProofs [go_sem,a3,a6,a7,slen,stk]
  refine PI c closed S sro slen a5 (by omega) _ _ (by simp -implicitDefEqProofs [go_sem]) (by simp -implicitDefEqProofs [go_sem]) fun f' h2 h3=>?_
  have hL:iz c closed s=cP c closed s:=by unfold iz; rw [if_neg (by omega)]; rfl
  rw [hL] at hX'
  simp -implicitDefEqProofs [go_sem]
  refine ⟨⟨_,_,rfl,rfl,by kernel_rfl⟩,fun r hR=>?_⟩
  generalize hT:ox 22 _=T at hR ⊢
  have t4:T 4 = .ptr 2 0 0:=by rw [←hT]; simp -implicitDefEqProofs [go_sem]
  have t5:T 5 = .ptr 3 0 0:=by rw [←hT]; simp -implicitDefEqProofs [go_sem]
  have t8:T 8 = .ptr 20 0 0:=by rw [←hT]; simp -implicitDefEqProofs [go_sem]
  have t9:T 9 = .ptr 21 0 0:=by rw [←hT]; simp -implicitDefEqProofs [go_sem]
  clear hT
  subst hSS
  have hfine:=rU (closed:=closed) a3 hcz hcc hS
  rw [hL] at hfine
  have hall:=wI c closed s
  rw [hL] at hall
  generalize hLL:cP c closed s=L at *
  have hV0:∀k,roL (((aD (L.take k)).1).map pL):=fun k=>ma _
  refine JK c closed s a5 (by omega) hcz hcc hS 22 23 (by omega) _ _ (fun k=>KR (((aD (L.take k)).1).map pL) (gH (aD (L.take k)).1:Nat) r T) (fun k=>(aD (L.take k)).2=0) rfl (fun k=>L9) (fun k=>JH (hV0 k)) ((oI (hV0 0)).2 ?_) (fun k a f n K' hk hok hH hTt hF=>?_) (fun a f n hok hH=>?_)
  ·simp -implicitDefEqProofs [go_sem,h2,h3,aD,gH,di]
  ·rw [hLL] at hk ⊢
   refine YA.of_fresh fun hfr=>?_
   obtain ⟨f2,f3,f20,f21,f22,fa⟩:=(oI (hV0 k)).1 hH
   have hfn:=(hfr n).2 (Nat.le_refl _)
   have hn:∀j,f j ≠ .fresh→j<n:=fun j hj=>by
    rcases Nat.lt_or_ge j n with h|h
    ·exact h
    ·exact absurd ((hfr j).2 h) hj
   have hn22:=hn 22 (by rw [f22]; simp)
   have hstep:=G6 hk
   have herr:=BZ hk hok
   have hx:L.getD k ([],0)∈L:=by rw [List.getD_eq_getElem?_getD,List.getElem?_eq_getElem hk]; exact List.getElem_mem _
   have hxf:=(hfine _ hx).1
   have htot:=C5 (L.take k) fun y hy _=>(hfine y (List.mem_of_mem_take hy)).1
   have htl:(L.take k).length≤34:=by rw [List.length_take]; omega
   rw [if_neg (fun h=>h hok)] at hstep
   have hT1:=fun a' f' n'=>hTt a' f' n'
   generalize L.getD k ([],0)=x at *
   obtain ⟨lx,ex⟩:=x
   simp only at hstep herr hxf
   have hVk:=hV0 k
   have hVk1:=hV0 (k+1)
   obtain ⟨W,hW⟩:∃W,W=((aD (L.take k)).1).map pL:=⟨_,rfl⟩
   obtain ⟨m,hm⟩:∃m,m=gH (aD (L.take k)).1:=⟨_,rfl⟩
   rw [←hW] at f20 fa hVk
   rw [←hm] at f21 htot
   have hfa2:W≠[]→a<n:=fun h=>hn a (by rw [(fa h).1]; simp)
   have wm:IntKind.i64.wrap ((m:Int)+lx.length)=(m:Int)+lx.length:=by rw [bS (by omega)]
   have wle:¬(1048576:Int)<(m:Int)+lx.length:=by omega
   unfold I4 pL
   refine hR _ _ _ _ rfl f22 hn22 ?_
   have n1:¬n=22:=by omega
   have n2:¬22=n:=by omega
   have n3:¬n=2:=by omega
   have n4:¬2=n:=by omega
   have n5:¬n=3:=by omega
   have n6:¬3=n:=by omega
   have n7:¬n=20:=by omega
   have n8:¬20=n:=by omega
   have n9:¬n=21:=by omega
   have n0:¬21=n:=by omega
   by_cases he:ex=0
   ·subst he
    rw [if_neg (by simp)] at hstep
    have wlt:¬(1048576:Int)<(m:Int):=by omega
    have wl2:(m:Int)≤1048576:=by omega
    have wl3:(m:Int)+lx.length≤1048576:=by omega
    have wm0:IntKind.i64.wrap (m:Int)=m:=by rw [bS (by omega)]
    have apc:(di 1 a W).cells=[di 1 a W]:=by unfold di; split<;>rfl
    have ok1:(aD (L.take (k+1))).2=0:=by rw [hstep]
    by_cases hlx:lx=[]
    ·have hWk:((aD (L.take (k+1))).1).map pL=W:=by rw [hstep,hW,if_pos hlx,List.append_nil]
     have hmk:gH (aD (L.take (k+1))).1=m:=by rw [hstep,hm,if_pos hlx,List.append_nil]
     simp -implicitDefEqProofs [go_sem,t4,t5,t8,t9,n1,n2,n3,n4,n5,n6,n7,n8,n9,n0,f2,f3,f20,f21,f22,hlx,wm0,wlt,wl2]
     refine hTt a _ _ ok1 ((oI (hV0 (k+1))).2 ?_)
     rw [hWk,hmk]
     refine ⟨by simp -implicitDefEqProofs [go_sem,n3,n4,f2],by simp -implicitDefEqProofs [go_sem,n5,n6,f3],by simp -implicitDefEqProofs [go_sem,n7,n8,f20],by simp -implicitDefEqProofs [go_sem],by simp -implicitDefEqProofs [go_sem,cn],fun h=>?_⟩
     obtain ⟨g1,g2,g3,g4,g5,g6⟩:=fa h
     have g7:=hfa2 h
     exact ⟨by simp -implicitDefEqProofs [go_sem,g6,g5,show ¬a=n by omega,g1],g2,g3,g4,g5,g6⟩
    ·have hWk:((aD (L.take (k+1))).1).map pL=W++[pL lx]:=by rw [hstep,hW,if_neg hlx,List.map_append]; rfl
     have hmk:gH (aD (L.take (k+1))).1=m+lx.length:=by rw [hstep,hm,if_neg hlx,Bc]
     have hl0:0<lx.length:=by have:=mt List.length_eq_zero_iff.1 hlx; omega
     have hWl:W.length≤34:=by
      have:=j6 (L.take k)
      rw [hW,List.length_map]; omega
     simp -implicitDefEqProofs [go_sem,t4,t5,t8,t9,n1,n2,n3,n4,n5,n6,n7,n8,n9,n0,f2,f3,f20,f21,f22,hlx,wm,wle,wl3,hl0,apc]
     refine aI (.inl rfl) (by omega) (by omega) (by simp -implicitDefEqProofs [go_sem]) (by simp<;>omega) (fun h=>by
      obtain ⟨g1,g2,g3,g4,g5,g6⟩:=fa h
      have g7:=hfa2 h
      simp -implicitDefEqProofs [go_sem,g5,g6,show ¬a=n by omega,show ¬a=n+1 by omega,g1]) ?_
     have hk:∀(F:Nat→BS) (j:Nat),(W≠[]→j≠a)→kill a W F j=F j:=fun F j h=>by
      unfold kill
      split
      ·rfl
      ·rename_i h0; exact aq _ _ _ (h h0)
     have k2:=fun F=>hk F 2 fun h=>Ne.symm (fa h).2.1
     have k3:=fun F=>hk F 3 fun h=>Ne.symm (fa h).2.2.1
     have k20:=fun F=>hk F 20 fun h=>Ne.symm (fa h).2.2.2.1
     have k21:=fun F=>hk F 21 fun h=>Ne.symm (fa h).2.2.2.2.1
     have k22:=fun F=>hk F 22 fun h=>Ne.symm (fa h).2.2.2.2.2
     have p2:¬2=n+1:=by omega
     have p3:¬3=n+1:=by omega
     have p20:¬20=n+1:=by omega
     have p21:¬21=n+1:=by omega
     have p22:¬22=n+1:=by omega
     have s2:¬2=n+1+1:=by omega
     have s3:¬3=n+1+1:=by omega
     have s20:¬20=n+1+1:=by omega
     have s21:¬21=n+1+1:=by omega
     have s22:¬22=n+1+1:=by omega
     have aps:di 1 (n+1+1) (W++[pL lx]) = .own 1 (n+1+1) 0 (W.length+1):=by rw [aV (by simp),List.length_append]; rfl
     have apl:∀v,(di 1 a W).lay 0 [v]=v:=fun v=>by unfold di; split<;>rfl
     have nz:¬n=0:=by omega
     simp -implicitDefEqProofs [go_sem,t8,k20,k22,p20,p22,s20,s22,n7,n8,f20,f22,n1,n2,apc,apl]
     refine hTt (n+1+1) _ _ ok1 ((oI (hV0 (k+1))).2 ?_)
     rw [hWk,hmk,aps]
     refine ⟨by simp -implicitDefEqProofs [go_sem,k2,p2,s2,nz,n3,n4,f2],by simp -implicitDefEqProofs [go_sem,k3,p3,s3,n5,n6,f3],by simp -implicitDefEqProofs [go_sem],by simp -implicitDefEqProofs [go_sem,k21,p21,s21],by simp -implicitDefEqProofs [go_sem,cn],fun h=>?_⟩
     exact ⟨by simp -implicitDefEqProofs [go_sem,show ¬n+1+1=20 by omega,show ¬n+1+1=22 by omega,pL],by omega,by omega,by omega,by omega,by omega⟩
   ·have herr:=herr he
    simp -implicitDefEqProofs [go_sem,t4,t5,t8,t9,n1,n2,n3,n4,n5,n6,n7,n8,n9,n0,f2,f3,f20,f21,f22,he]
    refine Hw (d0:=39) (d:=40) (x1:=4) (x2:=5) rfl rfl rfl rfl (by kernel_rfl) rfl Kk rfl rfl Qb rfl Kk rfl (by decide) (i:=n) (off:=1) (j1:=2) (j2:=3) (s:=2) (s1:=1) (s2:=1) (x := .agg [.sl 6 false (lx.map pA),.int .i64 ex]) (v := .int .i64 ex) (r:=[]) (w1 := .sl 0 true []) (w2 := .int .i64 0) (cv := .sl 0 true []) (sp:=True) (by simp -implicitDefEqProofs [go_sem,kK]) trivial (by simp -implicitDefEqProofs [go_sem,t4]) (by simp -implicitDefEqProofs [go_sem,t5]) (by omega) (by omega) (by simp -implicitDefEqProofs [go_sem,n1,n2]) rfl (by simp -implicitDefEqProofs [go_sem,n3,n4,f2]) (by simp -implicitDefEqProofs [go_sem,n5,n6,f3]) rfl rfl rfl rfl rfl ?_
    simp -implicitDefEqProofs [go_sem,n2,n4,n6,f22]
    refine hF _ _ ⟨.ret,by simp -implicitDefEqProofs [go_sem],?_⟩
    rw [hX',herr]
    simp -implicitDefEqProofs [go_sem,aL]
    exact mQ ex
  ·rw [hLL] at hok hH
   obtain ⟨f2,f3,f20,f21,f22,fa⟩:=(oI (hV0 _)).1 hH
   rw [List.take_length] at *
   refine ⟨.normal,by simp -implicitDefEqProofs [go_sem,f22,cn],?_⟩
   have hXe:X=((aD L).1,0):=by rw [hX',←hok]
   rw [hXe]
   unfold qO yq
   by_cases hV:(aD L).1=[]
   ·rw [hV] at f20 ⊢
    have f20':f 20 = .live 1 [.sl 0 true []]:=f20
    simp -implicitDefEqProofs [go_sem,f2,f3,f20',aL]
    exact Wk.tup (.cons (Wk.nil 0 1 true) (.cons (Wk.refl _) .nil))
   ·have hV':((aD L).1).map pL≠[]:=by simpa using hV
    obtain ⟨g1,g2,g3,g4,g5,g6⟩:=fa hV'
    have hVr:=ma (aD L).1
    rw [aV hV'] at f20
    generalize ((aD L).1).map pL=W at *
    simp -implicitDefEqProofs [go_sem,f2,f3,f20,g1,g2,g3,g4,g5,g6,hVr,aL]
    exact Wk.refl _
 have a6:¬(1:Int)<c.length:=by omega
 have a7:(c.length:Int)≤1:=by omega
 obtain ⟨p,rfl⟩:∃p,c=[p]:=by
  match c,a5,hn0 with
  | [p],_,_=>exact ⟨p,rfl⟩
  | a::b::c,h,_=>exact absurd (by simp) h
 have zp:=hcz p List.mem_cons_self
 have k1:=GW (pc p) s (be zp) hS
 rw [aO,hsav] at k1
 have hX2:X=if (fW p s).2≠0 then ([],(fW p s).2) else (if (fW p s).1=[] then [] else [(fW p s).1],0):=by
  rw [hX']
  have:iz [p] closed s=[fW p s]:=rfl
  rw [this]
  generalize fW p s=y
  obtain ⟨y1,y2⟩:=y
  simp only [aD,ne_eq,not_true_eq_false,if_false]
 have hxl:=(zE (p:=p) zp hS).1
 have k2:=A1 (fW p s).1 (fW p s).2
 unfold jp at k1
 unfold I4 at k2
 generalize fW p s=x at *
 obtain ⟨lx,ex⟩:=x
 simp only at hX2 hxl k1 k2
 have wl:IntKind.i64.wrap (lx.length:Int)=lx.length:=by rw [bS (by omega)]
 have wl1:¬(1048576:Int)<lx.length:=by omega
 have wl2:(lx.length:Int)≤1048576:=by omega
 have e1:(pc p).av = .agg (pC p):=rfl
 rw [e1] at k1
 unfold pL at k1 k2
 simp -implicitDefEqProofs [go_sem,a3,a6,a7,slen,stk]
 refine ⟨⟨_,_,rfl,rfl,by kernel_rfl⟩,fun r hR=>?_⟩
 generalize hT:ox 7 _=T at hR ⊢
 have t4:T 4 = .ptr 2 0 0:=by rw [←hT]; simp -implicitDefEqProofs [go_sem]
 have t5:T 5 = .ptr 3 0 0:=by rw [←hT]; simp -implicitDefEqProofs [go_sem]
 have t8:T 8 = .ptr 5 0 0:=by rw [←hT]; simp -implicitDefEqProofs [go_sem]
 have t9:T 9 = .ptr 6 0 0:=by rw [←hT]; simp -implicitDefEqProofs [go_sem]
 clear hT
 refine Cz Tryz.func107 rfl [] rfl ?_
 simp -implicitDefEqProofs [go_sem]
 refine lO 9 (by kernel_rfl) ?_
 simp -implicitDefEqProofs [go_sem,slen,stk,aQ]
 refine ao _ k1 (by simp [go_sem,sro]) ?_
 simp -implicitDefEqProofs [go_sem]
 refine aa k2 ?_
 simp -implicitDefEqProofs [go_sem]
 refine hR _ _ _ _ rfl (by simp -implicitDefEqProofs [go_sem]) (by omega) ?_
 by_cases he:ex=0
 ·subst he
  rw [if_neg (by simp)] at hX2
  by_cases hlx:lx=[]
  ·rw [if_pos hlx] at hX2
   subst hlx
   have w00:IntKind.i64.wrap 0=0:=by rw [bS (by omega)]
   rw [hX2]
   simp -implicitDefEqProofs [go_sem,t4,t5,t8,t9,w00]
   refine ⟨.normal,rfl,?_⟩
   simp -implicitDefEqProofs [go_sem,aL]
   exact mQ 0
  ·rw [if_neg hlx] at hX2
   have hl0:0<lx.length:=by have:=mt List.length_eq_zero_iff.1 hlx; omega
   have e2:qO ([lx],0) = .tup [.sl 1 false [.sl 6 false (lx.map pA)],.int .i64 0]:=rfl
   rw [hX2,e2]
   simp -implicitDefEqProofs [go_sem,t4,t5,t8,t9,wl,wl1,wl2,hlx,hl0]
   refine ⟨.normal,rfl,?_⟩
   simp -implicitDefEqProofs [go_sem,aL]
   exact Wk.refl _
 ·rw [if_pos he] at hX2
  simp -implicitDefEqProofs [go_sem,t4,t5,t8,t9,he]
  refine Hw (d0:=39) (d:=40) (x1:=4) (x2:=5) rfl rfl rfl rfl (by kernel_rfl) rfl Kk rfl rfl Qb rfl Kk rfl (by decide) (i:=17) (off:=1) (j1:=2) (j2:=3) (s:=2) (s1:=1) (s2:=1) (x := .agg [.sl 6 false (lx.map pA),.int .i64 ex]) (v := .int .i64 ex) (r:=[]) (w1 := .sl 0 true []) (w2 := .int .i64 0) (cv := .sl 0 true []) (sp:=True) (by simp -implicitDefEqProofs [go_sem,kK]) trivial (by simp -implicitDefEqProofs [go_sem,t4]) (by simp -implicitDefEqProofs [go_sem,t5]) (by omega) (by omega) (by simp -implicitDefEqProofs [go_sem]) rfl (by simp -implicitDefEqProofs [go_sem]) (by simp -implicitDefEqProofs [go_sem]) rfl rfl rfl rfl rfl ?_
  rw [hX2]
  simp -implicitDefEqProofs [go_sem]
  refine ⟨.ret,rfl,?_⟩
  simp -implicitDefEqProofs [go_sem,aL]
  exact mQ ex
def C_ (W:List PQ) (Y:List PQ) (i:Nat):Prop:=Y.length=W.length∧∀t (h:t<W.length) (h':t<Y.length),Y[t]=if t<i∨W.length≤t+i then W[W.length-1-t]'(by omega) else W[t]
theorem J_ {W Y:List PQ} {i:Nat} (h:C_ W Y i) (hi:W.length≤2*i+1):Y=W.reverse:=by
 refine List.ext_getElem (by rw [List.length_reverse]; exact h.1) fun t h1 h2=>?_
 have hl:=h.1
 rw [h.2 t (by omega) h1,List.getElem_reverse]
 split
 ·rfl
 ·congr 1; omega
theorem Is {W Y:List PQ} {i j:Nat} (h:C_ W Y i) (hi:2*i+1<W.length) (hj:j=W.length-1-i) (h1:i<Y.length) (h2:j<Y.length):C_ W ((Y.set i Y[j]).set j Y[i]) (i+1):=by
 have hl:=h.1
 have ei:=h.2 i (by omega) h1
 rw [if_neg (by omega)] at ei
 have ej:=h.2 j (by omega) h2
 rw [if_neg (by omega)] at ej
 refine ⟨by rw [List.length_set,List.length_set]; exact hl,fun t ht ht'=>?_⟩
 rw [List.getElem_set,List.getElem_set]
 by_cases a:j=t
 ·rw [if_pos a,if_pos (by omega),ei]; congr 1; omega
 ·rw [if_neg a]
  by_cases b:i=t
  ·rw [if_pos b,if_pos (by omega),ej]; congr 1; omega
  ·rw [if_neg b,h.2 t ht (by omega)]
   by_cases c:t<i∨W.length≤t+i
   ·rw [if_pos c,if_pos (by omega)]
   ·rw [if_neg c,if_neg (by omega)]
theorem CM (x:PQ) (W:List PQ) (hn:W.length≤1048576) (b ne:Nat) (hb:b<ne) (f:Nat→BS) (rest:List (Nat×BS)) (K:AV→(Nat→BS)→Nat→Prop)
 (hf:f b = .live 6 ((x::W).map pA)) (hr:∀p∈rest,p.1<ne∧p.1≠b∧f p.1=p.2∧gR ne ne p) (hrr:∀p∈rest,∀N,hp N rest p.1=p.2)
 (hK:∀f',f' b = .live 6 ((x::W.reverse).map pA)→(∀p∈rest,f' p.1=p.2)→K (.tup []) f' ne):CA Tryz.prog 117 [.own 6 b 1 W.length] f ne K:=by
 refine Cz Tryz.func117 rfl [] rfl ?_
 have w0:IntKind.i64.wrap ((W.length:Int)-1)=(W.length:Int)-1:=by rw [bS (by omega)]
 simp -implicitDefEqProofs [go_sem,w0]
 have hVr:∀Y:List PQ,roL ((x::Y).map pA):=fun Y=>bK _
 have hfix:∀p∈rest,lK p.2=p.2:=fun p hpm=>by
  obtain ⟨_,_,_,h4⟩:=hr p hpm
  refine xp fun h=>?_
  obtain ⟨j,bb⟩:=p
  simp only at h
  subst h
  simp only [gR] at h4
 have hnb:¬ne≤b:=by omega
 refine ap ne (α:={p:List PQ×Nat // (∃Y,p.1=x::Y∧C_ W Y p.2)∧p.2≤W.length}) (fun p=>[(0,.own 6 b 1 W.length),(2,.int .i64 p.1.2),(3,.int .i64 ((W.length:Int)-1-p.1.2))])
  (fun p=>(b,.live 6 (p.1.1.map pA))::rest) (fun p=>W.length-p.1.2) ⟨(x::W,0),⟨W,rfl,rfl,fun t h h'=>by rw [if_neg (by omega)]⟩,Nat.zero_le _⟩ [] (by simp) (fun _ _ _ _ h=>h) (by simp) (by simp -implicitDefEqProofs [go_sem,hb]) (fun p hpm=>?_) fun ⟨(Z,i),hY,hi⟩=>?_
 ·rcases List.mem_cons.1 hpm with rfl|hpm
  ·exact ⟨hb,by simp only [ic]; rw [renL_ro _ _ (hVr W)]; exact hf,cloL_ro _ (hVr W)⟩
  ·obtain ⟨h1,h2,h3,h4⟩:=hr p hpm
   exact ⟨h1,h3.trans (i6 _).symm,h4⟩
 simp only at hY hi
 obtain ⟨Y,hZ,hY⟩:=hY
 have hYl:=hY.1
 by_cases a:2*i+1<W.length
 ·obtain ⟨j,hj⟩:∃j,j=W.length-1-i:=⟨_,rfl⟩
  have ej:(W.length:Int)-1-i=(j:Int):=by omega
  have iY:i<Y.length:=by omega
  have jY:j<Y.length:=by omega
  have hst:=Is hY a hj iY jY
  have hVl:(Z.map pA).length=W.length+1:=by simp [hZ,hYl]
  have b1:1+i<(Z.map pA).length:=by omega
  have b2:1+j<(Z.map pA).length:=by omega
  have hg:∀t (h:t<Y.length),(Z.map pA)[1+t]'(by omega) = .agg (pC Y[t]):=fun t h=>by
   subst hZ
   rw [List.getElem_map]
   simp only [Nat.add_comm 1 t,List.getElem_cons_succ]
   rfl
  have g1:=hg i iY
  have g2:=hg j jY
  have hset:((Z.map pA).set (1+i) (.agg (pC Y[j]))).set (1+j) (.agg (pC Y[i]))=(x::((Y.set i Y[j]).set j Y[i])).map pA:=by
   subst hZ
   rw [Nat.add_comm 1 i,Nat.add_comm 1 j]
   simp only [List.map_cons,List.set_cons_succ,List.map_set]
   rfl
  have b3:1+j<((Z.map pA).set (1+i) (.agg (pC Y[j]))).length:=by rw [List.length_set]; exact b2
  have hcell:((Z.map pA).set (1+i) (.agg (pC Y[j])))[1+j]'b3 = .agg (pC Y[j]):=by
   rw [List.getElem_set_ne (by omega),g2]
  have w1:=wT i (by omega)
  have w2:IntKind.i64.wrap ((j:Int)-1)=(j:Int)-1:=by rw [bS (by omega)]
  have c1:(i:Int)<(j:Int):=by omega
  have c2:i<W.length:=by omega
  have c3:j<W.length:=by omega
  have hWr:=bK Z
  have hroN:=hVr ((Y.set i Y[j]).set j Y[i])
  obtain ⟨Zn,hZn⟩:∃Zn,Zn=x::((Y.set i Y[j]).set j Y[i]):=⟨_,rfl⟩
  rw [←hZn] at hset hroN
  obtain ⟨V,hV⟩:∃V,Z.map pA=V:=⟨_,rfl⟩
  simp only [hV] at g1 g2 b1 b2 b3 hset hcell hWr
  simp -implicitDefEqProofs [go_sem,hV,ej,c1]
  refine aU (by kernel_rfl) ?_
  simp -implicitDefEqProofs [go_sem,c1,c2,c3,hnb,g1,g2,b1,b2,hcell,hset,w1,w2]
  have e9:(W.length:Int)-1-((i:Int)+1)=(j:Int)-1:=by omega
  refine ae ⟨(Zn,i+1),⟨_,hZn,hst⟩,by omega⟩ (by simp only; omega) [] (by simp) (fun _ _ _ _ h=>h) (by simp) (by simp -implicitDefEqProofs [go_sem,hb,e9]) (fun p hpm=>?_)
  rcases List.mem_cons.1 hpm with rfl|hpm
  ·exact ⟨hb,by simp only [ic]; rw [renL_ro _ _ hroN,←hset]; simp -implicitDefEqProofs [go_sem,show b<ne+16 by omega],cloL_ro _ hroN⟩
  ·obtain ⟨h1,h2,h3,h4⟩:=hr p hpm
   refine ⟨h1,?_,h4⟩
   simp -implicitDefEqProofs [go_sem,show p.1<ne+16 by omega,h2,hrr p hpm ne,hfix p hpm]
   exact (i6 _).symm
 ·have a1:¬(i:Int)<(W.length:Int)-1-i:=by omega
  simp -implicitDefEqProofs [go_sem,a1]
  have:=J_ hY (by omega)
  subst this
  exact hK _ (by rw [am,hZ]) (fun p hpm=>by rw [aq _ _ _ (hr p hpm).2.1]; exact hrr p hpm ne)
def I5 (L:List (List PR)):AV := .sl 1 false (L.map fK)
theorem CO (L:List (List PR)):roL (L.map fK):=dq jS
theorem oF {α:Type} {g:α→AV} {l:List α} {i:Nat} (h:i<l.length):bU (l.map g) (i:Int)=g l[i]:=by
 unfold bU
 rw [Int.toNat_natCast,List.getD_eq_getElem?_getD,List.getElem?_map,List.getElem?_eq_getElem h]; rfl
@[go_sem] theorem L_ (n sz id:Nat) (l:List AV) (r:List (Nat×BS)) (j:Nat):hp n (cR sz id l++r) j=if j=id∧l≠[] then .live sz l else hp n r j:=by
 by_cases h:l=[]
 ·subst h; simp [cR]
 ·rw [aC h]
  simp only [List.cons_append,List.nil_append,hp,aH,h,ne_eq,not_false_eq_true,and_true]
theorem oE {g:Nat} {l O:List AV} (h:roL O):O.map (frz g l)=O:=by
 refine (List.map_congr_left fun a ha=>?_).trans (List.map_id _)
 have:=gu.1 h a ha
 cases a<;>first|rfl|(simp only [ro] at this)
def tw (m:MQ) (p:List PR):AV:=slv 6 ((cW m (p.map PR.val)).map pA)
theorem CP (m:MQ) (p:List PR):ro (tw m p):=by
 unfold tw slv
 split
 ·simp only [ro,roL]
 ·simp only [ro]; exact bK _
def H3 (m:MQ) (L:List (List PR)):AV := .sl 1 false (L.map (tw m))
theorem CN (m:MQ) (L:List (List PR)):roL (L.map (tw m)):=dq (CP m)
theorem MA (m:MQ) (L:List (List PR)):ro (H3 m L):=by unfold H3; simp only [ro]; exact CN m L
theorem lY (L:List (List PR)) (m:MR) (hL:L.length≤1048576) (hl:∀p∈L,p.length≤1048576) (hp:∀p∈L,∀q∈p,q.In 100000000) (hm:m.In 1000) :
 ag Tryz.prog 48 [I5 L,m.av] (if m.val.det=0 then .tup [.sl 0 true [],.int .i64 12] else .tup [H3 m.val L,.int .i64 0]):=by
 have hmm:m.In 100000000:=⟨hm.a.mono,hm.b.mono,hm.c.mono,hm.d.mono,hm.e.mono,hm.f.mono⟩
 have k1:=FC m hmm
 have zd:sz m.val.det≤17179869184:=by
  have z1:=aJ m.a.val m.d.val
  have z2:=aJ m.b.val m.c.val
  have z3:=sz_sub (m.a.val*m.d.val) (m.b.val*m.c.val)
  have y1:=hm.a.sz
  have y2:=hm.b.sz
  have y3:=hm.c.sz
  have y4:=hm.d.sz
  change sz m.val.det≤_ at z3
  omega
 have k2:=jx m.val.det zd
 have s0:=eo (x:=m.val.det)
 have sl:=iy (x:=m.val.det)
 have kap:=fun (q:PR) (hq:q.In 100000000)=>Aj m q hmm hq
 have mro:=m.ro_cs
 have mlen:m.cs.length=18:=rfl
 have mtk:m.cs.take 18=m.cs:=rfl
 have hav:m.av = .agg m.cs:=rfl
 rw [hav] at k1 ⊢
 simp only [hav] at kap
 obtain ⟨sg0,hsg⟩:∃x,x=aM m.val.det:=⟨_,rfl⟩
 rw [←hsg] at k2 s0 sl
 by_cases d0:m.val.det=0
 ·rw [if_pos d0]
  have e0:=s0.2 d0
  subst e0
  generalize m.cs=M at *
  refine ag.of_goz true lZ Tryz.func48 rfl (rs:=[.tmp 4,.tmp 5]) rfl (by kernel_rfl) (by simp -implicitDefEqProofs [go_sem]) ?_
  unfold I5
  simp only [bA] at *
  simp -implicitDefEqProofs [go_sem,mlen,mtk]
  refine ah _ k1 (by simp [go_sem,mro]) ?_
  simp -implicitDefEqProofs [go_sem]
  refine ac k2 ?_
  simp -implicitDefEqProofs [go_sem]
 rw [if_neg d0]
 have e0:¬sg0=0:=fun h=>d0 (s0.1 h)
 refine ag.of_ca (by simp only [ro,roL]; exact ⟨MA _ _,trivial,trivial⟩) (Cz Tryz.func48 rfl [.tmp 4,.tmp 5] rfl ?_)
 generalize hM:m.cs=M at *
 unfold I5
 simp only [bA] at k1 k2
 simp -implicitDefEqProofs [go_sem,mlen,mtk]
 refine ah _ k1 (by simp [go_sem,mro]) ?_
 simp -implicitDefEqProofs [go_sem]
 refine ac k2 ?_
 simp -implicitDefEqProofs [go_sem,e0]
 have mrc:=cloL_ro (n:=2) _ mro
 have mrr:=renL_ro (nm []) _ mro
 have hLr:=CO L
 obtain ⟨LM,hLM⟩:∃LM,LM=L.map (tw m.val):=⟨_,rfl⟩
 have hLMl:LM.length=L.length:=by rw [hLM]; simp
 have hLMr:roL LM:=by rw [hLM]; exact CN _ _
 have hLMg:∀i (h:i<L.length),LM[i]'(by omega)=tw m.val L[i]:=fun i h=>by subst hLM; rw [List.getElem_map]
 have hend:H3 m.val L = .sl 1 false LM:=by rw [hLM]; rfl
 rw [hend]
 have gL:∀i (h:i<L.length),bU (L.map fK) (i:Int) = .sl 6 false (L[i].map PR.av):=fun i h=>oF h
 have hLPl:(L.map fK).length=L.length:=by simp
 generalize L.map fK=LP at *
 refine ap 2 (α:={i:Nat // i≤L.length}) (fun i=>[(3,.ptr 0 0 0),(6,.int .i64 sg0),(7,di 1 1 (LM.take i.1)),(18,.sl 1 false LP),(19,.int .i64 L.length),(20,.int .i64 i.1)])
  (fun i=>(0,.live 18 [.agg M])::cR 1 1 (LM.take i.1)) (fun i=>L.length-i.1) ⟨0,Nat.zero_le _⟩ [] (by simp) (fun _ _ _ _ h=>h) (by simp) (by simp -implicitDefEqProofs [go_sem,di,hLPl,renL_ro (nm []) _ hLr,cloL_ro (n:=2) _ hLr]) (by simp -implicitDefEqProofs [go_sem,cR,mrc,mrr]) fun ⟨i,hi⟩=>?_
 obtain ⟨O,hO⟩:∃O,O=LM.take i:=⟨_,rfl⟩
 have hOr:roL O:=by rw [hO]; exact bV hLMr
 have hOl:O.length=i:=by rw [hO,List.length_take]; omega
 by_cases a:i<L.length
 ·have a1:(i:Int)<L.length:=by omega
  have gi:=gL i a
  have hli:=hl _ (List.getElem_mem a)
  have hpi:=hp _ (List.getElem_mem a)
  have hO1:LM.take (i+1)=O++[tw m.val L[i]]:=by rw [List.take_succ_eq_append_getElem (by omega),hLMg i a,hO]
  generalize L[i]=p at *
  have oc2:=cloL_ro (n:=3) _ hOr
  have mrc3:=cloL_ro (n:=3) _ mro
  have prr:=iR p
  obtain ⟨VP,hVP⟩:∃VP,VP=p.map fun q=>pA (m.val.app q.val):=⟨_,rfl⟩
  have hVPl:VP.length=p.length:=by rw [hVP]; simp
  have hVPr:roL VP:=by rw [hVP]; exact dq fun q=>iU _
  have hVPg:∀k (h:k<p.length),VP[k]'(by omega) = .agg (pC (m.val.app p[k].val)):=fun k h=>by subst hVP; rw [List.getElem_map]; rfl
  simp -implicitDefEqProofs [go_sem,a1,a,gi,←hO,hLPl]
  refine ap 3 (α:={k:Nat // k≤p.length}) (fun k=>[(3,.ptr 0 0 0),(6,.int .i64 sg0),(7,di 1 1 O),(10,di 6 2 (VP.take k.1)),(18,.sl 1 false LP),(19,.int .i64 L.length),(20,.int .i64 i),(24,.sl 6 false (p.map PR.av)),(25,.int .i64 p.length),(26,.int .i64 k.1)])
   (fun k=>(0,.live 18 [.agg M])::(cR 1 1 O++cR 6 2 (VP.take k.1))) (fun k=>p.length-k.1) ⟨0,Nat.zero_le _⟩ [] (by simp) (fun _ _ _ _ h=>h) (by simp) (by simp -implicitDefEqProofs [go_sem,og,renL_ro (nm []) _ hLr,cloL_ro (n:=3) _ hLr,renL_ro (nm []) _ prr,cloL_ro (n:=3) _ prr]) (by simp -implicitDefEqProofs [go_sem,mrr,mrc3,renL_ro (nm []) _ hOr,oc2]) fun ⟨k,hk⟩=>?_
  obtain ⟨Q,hQ⟩:∃Q,Q=VP.take k:=⟨_,rfl⟩
  have hQr:roL Q:=by rw [hQ]; exact bV hVPr
  have hQl:Q.length=k:=by rw [hQ,List.length_take]; omega
  simp only [←hQ]
  by_cases b:k<p.length
  ·have b1:(k:Int)<p.length:=by omega
   have gk:=oF (g:=PR.av) b
   rw [PR.av_cs] at gk
   have kx:=kap p[k] (hpi _ (List.getElem_mem b))
   rw [PR.av_cs] at kx
   have hQ1:VP.take (k+1)=Q++[.agg (pC (m.val.app p[k].val))]:=by rw [List.take_succ_eq_append_getElem (by omega),hVPg k b,hQ]
   have cs6:p[k].cs.length=6:=rfl
   have ct6:p[k].cs.take 6=p[k].cs:=rfl
   have cd6:p[k].cs.drop 6=[]:=rfl
   have cro:=p[k].ro_cs
   have es:=wS k (by omega)
   generalize m.val.app p[k].val=y at *
   generalize p[k].cs=S at *
   rw [aQ] at kx
   simp -implicitDefEqProofs [go_sem,b1,b,gk,cs6,ct6,cd6,mlen,mtk]
   refine ah _ kx (by simp [go_sem,mro,cro]) ?_
   simp -implicitDefEqProofs [go_sem]
   refine aI (.inl rfl) (by omega) (by omega) (by simp -implicitDefEqProofs [go_sem]) (by simp [hQl]<;>omega) (by simp -implicitDefEqProofs [go_sem]) ?_
   simp -implicitDefEqProofs [go_sem,es]
   have hQr1:roL (Q++[.agg (pC y)]):=by rw [←hQ1]; exact bV hVPr
   have r1:=renL_ro (nm [(2,5)]) _ hQr1
   have r2:=cloL_ro (n:=3) _ hQr1
   exact ae ⟨k+1,b⟩ (by simp only; omega) [(2,5)] (by simp) (by simp only [hQ1,bP]; by_cases h:O=[]<;>simp [cR,h,nm]) (by simp) (by simp only [hQ1,eJ]; simp -implicitDefEqProofs [go_sem,hQl,es,renL_ro (nm [(2,5)]) _ hLr,cloL_ro (n:=3) _ hLr,renL_ro (nm [(2,5)]) _ prr,cloL_ro (n:=3) _ prr]) (by
    simp only [hQ1,bP]
    by_cases h0:O=[]<;>simp -implicitDefEqProofs [go_sem,h0,cR,renL_ro (nm [(2,5)]) _ mro,mrc3,renL_ro (nm [(2,5)]) _ hOr,oc2,r1,r2])
  ·have hkk:k=p.length:=by omega
   have b1:¬(k:Int)<p.length:=by omega
   have hQe:Q=VP:=by rw [hQ,List.take_of_length_le (by omega)]
   simp -implicitDefEqProofs [go_sem,b1]
   have w1:=wS i (by omega)
   have hOr1:roL (O++[tw m.val p]):=by rw [←hO1]; exact bV hLMr
   subst hQe
   have hY:Q=(p.map fun q=>m.val.app q.val).map pA:=by rw [hVP,List.map_map]; rfl
   have hmE:tw m.val p=slv 6 ((cW m.val (p.map PR.val)).map pA):=rfl
   have hmap:(p.map PR.val).map m.val.app=p.map fun q=>m.val.app q.val:=by rw [List.map_map]; rfl
   by_cases hQ0:Q=[]
   ·have hp0:p=[]:=by
     rw [hVP] at hQ0
     simpa using hQ0
    have hE:tw m.val p = .sl 0 true []:=by
     rw [hmE,hp0]
     unfold cW
     split<;>rfl
    rw [hE] at hO1 hOr1
    rw [hQ0]
    by_cases hs:sg0<0
    ·simp -implicitDefEqProofs [go_sem,hs,show ¬0≤sg0 by omega]
     refine aI (.inl rfl) (by omega) (by omega) (by simp -implicitDefEqProofs [go_sem]) (by simp [hOl]<;>omega) (by simp -implicitDefEqProofs [go_sem]) ?_
     simp -implicitDefEqProofs [go_sem,w1]
     have r1:=renL_ro (nm [(1,4)]) _ hOr1
     have r2:=cloL_ro (n:=2) _ hOr1
     exact ae ⟨i+1,a⟩ (by simp only; omega) [(1,4)] (by simp) (by simp only [hO1,bP]; simp [nm]) (by simp) (by simp only [hO1,eJ]; simp -implicitDefEqProofs [go_sem,hOl,w1,renL_ro (nm [(1,4)]) _ hLr,cloL_ro (n:=2) _ hLr]) (by
      simp only [hO1,bP]
      simp -implicitDefEqProofs [go_sem,renL_ro (nm [(1,4)]) _ mro,mrc,r1,r2])
    ·simp -implicitDefEqProofs [go_sem,hs,show 0≤sg0 by omega]
     refine aI (.inl rfl) (by omega) (by omega) (by simp -implicitDefEqProofs [go_sem]) (by simp [hOl]<;>omega) (by simp -implicitDefEqProofs [go_sem]) ?_
     simp -implicitDefEqProofs [go_sem,w1]
     have r1:=renL_ro (nm [(1,4)]) _ hOr1
     have r2:=cloL_ro (n:=2) _ hOr1
     exact ae ⟨i+1,a⟩ (by simp only; omega) [(1,4)] (by simp) (by simp only [hO1,bP]; simp [nm]) (by simp) (by simp only [hO1,eJ]; simp -implicitDefEqProofs [go_sem,hOl,w1,renL_ro (nm [(1,4)]) _ hLr,cloL_ro (n:=2) _ hLr]) (by
      simp only [hO1,bP]
      simp -implicitDefEqProofs [go_sem,renL_ro (nm [(1,4)]) _ mro,mrc,r1,r2])
   ·have hp0:0<p.length:=by have:=mt List.length_eq_zero_iff.1 hQ0; omega
    have av:di 6 2 Q = .own 6 2 0 p.length:=by rw [aV hQ0,hQl,hkk]
    by_cases hs:sg0<0
    ·obtain ⟨x,W,hxW⟩:∃x W,(p.map fun q=>m.val.app q.val)=x::W:=by
      match p,hp0 with
      | q::p,_=>exact ⟨_,_,rfl⟩
     have hWl:W.length=p.length-1:=by have:=congrArg List.length hxW; simp at this; omega
     have hE:tw m.val p = .sl 6 false ((x::W.reverse).map pA):=by
      rw [hmE]
      unfold cW
      rw [if_pos (sl.1 hs),hmap,hxW]
      rfl
     rw [hE] at hO1 hOr1
     have c1:(1:Int)≤p.length:=by omega
     have c2:1≤p.length:=by omega
     have c3:(0:Int)<p.length:=by omega
     have hYW:Q=(x::W).map pA:=by rw [hY,hxW]
     simp -implicitDefEqProofs [go_sem,hs,show ¬0≤sg0 by omega,hQl,hkk,hQ0,hp0,av,c1,c2,c3]
     rw [←hWl]
     refine CM x W (by omega) 2 3 (by omega) _ ((0,.live 18 [.agg M])::cR 1 1 O) _ (by simp -implicitDefEqProofs [go_sem,hQ0]; exact hYW) (by simp -implicitDefEqProofs [go_sem,mrc3,oc2]) (by by_cases h:O=[]<;>simp -implicitDefEqProofs [go_sem,cR,h]) fun f' h2 h0=>?_
     have f0:=h0 _ List.mem_cons_self
     have f1:O≠[]→f' 1 = .live 1 O:=fun h=>h0 (1,.live 1 O) (List.mem_cons_of_mem _ (by rw [aC h]; exact List.mem_cons_self))
     simp only at f0
     obtain ⟨R,hR⟩:∃R,R=(x::W.reverse).map pA:=⟨_,rfl⟩
     have hRr:roL R:=by rw [hR]; exact bK _
     have hRl:R.length=p.length:=by rw [hR]; simp; omega
     rw [←hR] at h2 hO1 hOr1
     simp -implicitDefEqProofs [go_sem]
     refine aI (.inl rfl) (by omega) (by omega) (by simp -implicitDefEqProofs [go_sem]) (by simp [hOl]<;>omega) (fun h=>by simp -implicitDefEqProofs [go_sem,f1 h]) ?_
     simp -implicitDefEqProofs [go_sem,w1]
     have hfo:=oE (g:=2) (l:=R) hOr
     have r1:=renL_ro (nm [(1,4)]) _ hOr1
     have r2:=cloL_ro (n:=2) _ hOr1
     refine mC 2 6 R (by by_cases h:O=[]<;>simp -implicitDefEqProofs [go_sem,kill,h,h2]) ⟨i+1,a⟩ (by simp only; omega) [(1,4)] (by simp) (by simp only [hO1,bP]; simp [nm]) (by simp) ?_ ?_
     ·simp only [hO1,eJ]
      simp -implicitDefEqProofs [go_sem,hOl,w1,renL_ro (nm [(1,4)]) _ hLr,cloL_ro (n:=2) _ hLr]
     ·simp only [hO1,bP]
      simp -implicitDefEqProofs [go_sem,f0,hfo,hRl,renL_ro (nm [(1,4)]) _ mro,mrc,r1,r2]
      rw [←hRl,List.take_length]
    ·have hE:tw m.val p = .sl 6 false Q:=by
      rw [hmE]
      unfold cW
      rw [if_neg (fun h=>hs (sl.2 h)),hmap,←hY]
      unfold slv
      rw [if_neg hQ0]
     rw [hE] at hO1 hOr1
     simp -implicitDefEqProofs [go_sem,hs,show 0≤sg0 by omega,av]
     refine aI (.inl rfl) (by omega) (by omega) (by simp -implicitDefEqProofs [go_sem]) (by simp [hOl]<;>omega) (by simp -implicitDefEqProofs [go_sem]) ?_
     simp -implicitDefEqProofs [go_sem,w1]
     have hfo:=oE (g:=2) (l:=Q) hOr
     have r1:=renL_ro (nm [(1,4)]) _ hOr1
     have r2:=cloL_ro (n:=2) _ hOr1
     refine mC 2 6 Q (by by_cases h:O=[]<;>simp -implicitDefEqProofs [go_sem,kill,h,hQ0]) ⟨i+1,a⟩ (by simp only; omega) [(1,4)] (by simp) (by simp only [hO1,bP]; simp [nm]) (by simp) ?_ ?_
     ·simp only [hO1,eJ]
      simp -implicitDefEqProofs [go_sem,hOl,w1,renL_ro (nm [(1,4)]) _ hLr,cloL_ro (n:=2) _ hLr]
     ·simp only [hO1,bP]
      simp -implicitDefEqProofs [go_sem,hfo,hQl,hkk,renL_ro (nm [(1,4)]) _ mro,mrc,r1,r2]
      rw [←hkk,←hQl,List.take_length]
 ·have hii:i=L.length:=by omega
  have a1:¬(i:Int)<L.length:=by omega
  have hOe:O=LM:=by rw [hO,List.take_of_length_le (by omega)]
  simp -implicitDefEqProofs [go_sem,a1,←hO]
  subst hOe
  by_cases h:O=[]
  ·subst h
   simp -implicitDefEqProofs [go_sem]
   exact Wk.tup (.cons (Wk.nil 0 1 true) (.cons (Wk.refl _) .nil))
  ·simp -implicitDefEqProofs [go_sem,aV h,h,hOr]
   exact Wk.refl _
def Bm (e:PQ×PQ):AV := .agg (pC e.1++pC e.2)
theorem My (e:PQ×PQ):ro (Bm e):=by unfold Bm; simp -implicitDefEqProofs [go_sem,aF]
def GX (E:List (PQ×PQ)):AV := .sl 12 false (E.map Bm)
theorem nR (E:List (PQ×PQ)):roL (E.map Bm):=dq My
theorem Iy (E:List (PQ×PQ)):ro (GX E):=by unfold GX; simp only [ro]; exact nR E
def nj (l:List PQ) (k:Nat):List (PQ×PQ):=((List.range k).map fun i=>(l.getD i ⟨0,0⟩,l.getD ((i+1)%l.length) ⟨0,0⟩)).filter fun e=>decide (e.1.y≠e.2.y)
theorem v_ (l:List PQ):nj l l.length=kD l:=rfl
theorem tI (l:List PQ) (k:Nat):nj l (k+1)=nj l k++if (l.getD k ⟨0,0⟩).y=(l.getD ((k+1)%l.length) ⟨0,0⟩).y then [] else [(l.getD k ⟨0,0⟩,l.getD ((k+1)%l.length) ⟨0,0⟩)]:=by
 unfold nj
 rw [List.range_succ,List.map_append,List.filter_append]
 congr 1
 simp only [List.map_cons,List.map_nil]
 by_cases h:(l.getD k ⟨0,0⟩).y=(l.getD ((k+1)%l.length) ⟨0,0⟩).y
 ·rw [if_pos h,List.filter_cons_of_neg (by simpa using h)]; rfl
 ·rw [if_neg h,List.filter_cons_of_pos (by simpa using h)]; rfl
theorem mO (l:List PQ) (k:Nat):(nj l k).length≤k:=by
 unfold nj
 refine Nat.le_trans (List.length_filter_le _ _) ?_
 simp
def cB (L:List (List PQ)):List (PQ×PQ):=L.flatMap kD
theorem sH (L:List (List PQ)) (l:List PQ):cB (L++[l])=cB L++kD l:=by unfold cB; simp
theorem pO {L:List (List PQ)} {n:Nat} (h:∀l∈L,l.length≤n):(cB L).length≤L.length*n:=by
 induction L with
 | nil=>simp [cB]
 | cons l L ih =>
  have h1:=ih fun x hx=>h x (List.mem_cons_of_mem _ hx)
  have h2:=h l List.mem_cons_self
  have h3:=mO l l.length
  have e:cB (l::L)=kD l++cB L:=rfl
  rw [e,List.length_append,←v_,List.length_cons,Nat.succ_mul]
  omega
theorem sG (L:List (List PR)) (hL:L.length≤1024) (hl:∀p∈L,p.length≤16384) (hp:∀p∈L,∀q∈p,q.In 1000000) :
 ag Tryz.prog 52 [I5 L] (GX (cB (L.map fun p=>p.map PR.val))):=by
 refine ag.of_ca (Iy _) (Cg Tryz.func52 rfl [.tmp 2] rfl ?_)
 have hLr:=CO L
 have hLPl:(L.map fK).length=L.length:=by simp
 have gL:∀i (h:i<L.length),bU (L.map fK) (i:Int) = .sl 6 false (L[i].map PR.av):=fun i h=>oF h
 unfold I5
 generalize L.map fK=LP at *
 obtain ⟨LV,hLV⟩:∃LV,LV=L.map fun p=>p.map PR.val:=⟨_,rfl⟩
 rw [←hLV]
 have hLVl:LV.length=L.length:=by rw [hLV]; simp
 have hLVg:∀i (h:i<L.length),LV[i]'(by omega)=L[i].map PR.val:=fun i h=>by subst hLV; rw [List.getElem_map]
 have hEl:∀i,i≤L.length→(cB (LV.take i)).length≤i*16384:=fun i hi=>by
  refine Nat.le_trans (pO (n:=16384) fun l h=>?_) (by rw [List.length_take]; exact Nat.mul_le_mul_right _ (by omega))
  have:=List.mem_of_mem_take h
  rw [hLV] at this
  obtain ⟨p,hp,rfl⟩:=List.mem_map.1 this
  rw [List.length_map]; exact hl p hp
 obtain ⟨H,hH⟩:∃H:Nat→List AV,H=fun i=>(cB (LV.take i)).map Bm:=⟨_,rfl⟩
 have hHr:∀i,roL (H i):=fun i=>by rw [hH]; exact nR _
 have hH0:H 0=[]:=by rw [hH]; rfl
 have hHe:GX (cB LV) = .sl 12 false (H L.length):=by rw [hH]; simp only; rw [List.take_of_length_le (by omega)]; rfl
 have hHl:∀i,i≤L.length→(H i).length≤16777216:=fun i hi=>by
  have:=hEl i hi
  rw [hH,List.length_map]
  omega
 rw [hHe]
 simp -implicitDefEqProofs [go_sem]
 refine ap 1 (α:={i:Nat // i≤L.length}) (fun i=>[(3,di 12 0 (H i.1)),(9,.sl 1 false LP),(10,.int .i64 L.length),(11,.int .i64 i.1)])
  (fun i=>cR 12 0 (H i.1)) (fun i=>L.length-i.1) ⟨0,Nat.zero_le _⟩ [] (by simp) (fun _ _ _ _ h=>h) (by simp) (by simp -implicitDefEqProofs [go_sem,hH0,hLPl,renL_ro (nm []) _ hLr,cloL_ro (n:=1) _ hLr]) (by simp -implicitDefEqProofs [go_sem,hH0]) fun ⟨i,hi⟩=>?_
 have hHi:=hHl i hi
 have hHir:=hHr i
 by_cases a:i<L.length
 ·have a1:(i:Int)<L.length:=by omega
  have gi:=gL i a
  have hli:=hl _ (List.getElem_mem a)
  have hpi:=hp _ (List.getElem_mem a)
  have hE1:H (i+1)=H i++(kD (L[i].map PR.val)).map Bm:=by
   rw [hH]
   simp only
   rw [List.take_succ_eq_append_getElem (by omega),hLVg i a,sH,List.map_append]
  have w1:=wS i (by omega)
  generalize L[i]=p at *
  have prr:=iR p
  obtain ⟨q,hq⟩:∃q,q=p.map PR.val:=⟨_,rfl⟩
  rw [←hq] at hE1
  have hql:q.length=p.length:=by rw [hq]; simp
  have hqg:∀k (h:k<p.length),q.getD k ⟨0,0⟩=p[k].val:=fun k h=>by rw [List.getD_eq_getElem?_getD,hq,List.getElem?_map,List.getElem?_eq_getElem h]; rfl
  have gP:∀k (h:k<p.length),bU (p.map PR.av) (k:Int) = .agg p[k].cs:=fun k h=>by rw [oF h]; rfl
  have hPPl:(p.map PR.av).length=p.length:=by simp
  generalize p.map PR.av=PP at *
  obtain ⟨G,hG⟩:∃G:Nat→List AV,G=fun k=>H i++(nj q k).map Bm:=⟨_,rfl⟩
  have hGr:∀k,roL (G k):=fun k=>by rw [hG]; exact aF.2 ⟨hHir,nR _⟩
  have hG0:G 0=H i:=by rw [hG]; simp [nj]
  have hGe:G p.length=H (i+1):=by rw [hG,hE1,←hql]; rfl
  have hGl:∀k,k≤p.length→(G k).length≤17000000:=fun k hk=>by
   have:=mO q k
   rw [hG,List.length_append,List.length_map]; omega
  have hGs:∀k,G (k+1)=G k++(if (q.getD k ⟨0,0⟩).y=(q.getD ((k+1)%q.length) ⟨0,0⟩).y then [] else [Bm (q.getD k ⟨0,0⟩,q.getD ((k+1)%q.length) ⟨0,0⟩)]):=fun k=>by
   rw [hG]
   simp only
   rw [tI,List.map_append,List.append_assoc]
   split<;>rfl
  simp -implicitDefEqProofs [go_sem,a1,a,gi,hLPl]
  refine ap 1 (α:={k:Nat // k≤p.length}) (fun k=>[(3,di 12 0 (G k.1)),(5,.sl 6 false PP),(9,.sl 1 false LP),(10,.int .i64 L.length),(11,.int .i64 i),(15,.sl 6 false PP),(16,.int .i64 p.length),(17,.int .i64 k.1)])
   (fun k=>cR 12 0 (G k.1)) (fun k=>p.length-k.1) ⟨0,Nat.zero_le _⟩ [] (by simp) (fun _ _ _ _ h=>h) (by simp) (by simp -implicitDefEqProofs [go_sem,hG0,hPPl,renL_ro (nm []) _ hLr,cloL_ro (n:=1) _ hLr,renL_ro (nm []) _ prr,cloL_ro (n:=1) _ prr]) (by simp -implicitDefEqProofs [go_sem,hG0,renL_ro (nm []) _ hHir,cloL_ro (n:=1) _ hHir]) fun ⟨k,hk⟩=>?_
  have hFr:=hGr k
  have hFl:=hGl k hk
  by_cases b:k<p.length
  ·have b1:(k:Int)<p.length:=by omega
   have hmod:(k+1)%p.length<p.length:=Nat.mod_lt _ (by omega)
   have g1:=gP k b
   have g2:=gP _ hmod
   have e1:=wT k (by omega)
   have e2:Int.tmod ((k:Int)+1) (p.length:Int)=((k+1)%p.length:Nat):=by rw [Int.tmod_eq_emod_of_nonneg (by omega)]; rfl
   have hsucc:=hGs k
   rw [hqg k b,hql,hqg _ hmod] at hsucc
   have hx:=hpi _ (List.getElem_mem b)
   have hy:=hpi _ (List.getElem_mem hmod)
   have hFr1:=hGr (k+1)
   generalize (k+1)%p.length=j at *
   have kc:=fM p[k].y p[j].y (hx.y.mono (m:=1000000)).sm (hy.y.mono (m:=1000000)).sm
   have kg1:=nS p[k] hx
   have kg2:=nS p[j] hy
   have hc0:bJ p[k].y.val p[j].y.val=0↔p[k].val.y=p[j].val.y:=rq
   have hp0:¬p.length=0:=by omega
   have u6:p[k].cs.length=6:=rfl
   have u7:p[k].cs.take 6=p[k].cs:=rfl
   have u8:p[k].cs.drop 6=[]:=rfl
   have u9:=p[k].ro_cs
   have v6:p[j].cs.length=6:=rfl
   have v7:p[j].cs.take 6=p[j].cs:=rfl
   have v8:p[j].cs.drop 6=[]:=rfl
   have v9:=p[j].ro_cs
   have u10:(p[k].cs.drop 3).take 3=p[k].y.cells:=rfl
   have v10:(p[j].cs.drop 3).take 3=p[j].y.cells:=rfl
   have u11:roL p[k].y.cells:=by unfold RQ.cells; simp -implicitDefEqProofs [go_sem]
   have v11:roL p[j].y.cells:=by unfold RQ.cells; simp -implicitDefEqProofs [go_sem]
   rw [show p[k].y.av = .agg p[k].y.cells from rfl,show p[j].y.av = .agg p[j].y.cells from rfl] at kc
   rw [PR.av_cs,aQ] at kg1 kg2
   generalize p[k].y.cells=YA' at *
   generalize p[j].y.cells=YB at *
   generalize bJ p[k].y.val p[j].y.val=cc at *
   generalize p[k].val=x at *
   generalize p[j].val=y at *
   generalize p[k].cs=S at *
   generalize p[j].cs=S2 at *
   simp -implicitDefEqProofs [go_sem,b1,b,hp0,hPPl,g1,g2,e1,e2,u6,u7,u8,u10,v6,v7,v8,v10]
   refine ⟨hmod,ah _ kc (by simp [go_sem,u11,v11]) ?_⟩
   by_cases hyy:x.y=y.y
   ·have hcc:=hc0.2 hyy
    rw [if_pos hyy,List.append_nil] at hsucc
    simp -implicitDefEqProofs [go_sem,hcc,e1]
    exact ae ⟨k+1,b⟩ (by simp only; omega) [] (by simp) (fun _ _ _ _ h=>h) (by simp) (by simp -implicitDefEqProofs [go_sem,hsucc,renL_ro (nm []) _ hLr,cloL_ro (n:=1) _ hLr,renL_ro (nm []) _ prr,cloL_ro (n:=1) _ prr]) (by simp -implicitDefEqProofs [go_sem,hsucc,renL_ro (nm []) _ hFr,cloL_ro (n:=1) _ hFr])
   ·have hcc:¬cc=0:=fun h=>hyy (hc0.1 h)
    rw [if_neg hyy] at hsucc
    have ee:Bm (x,y) = .agg (pC x++pC y):=rfl
    rw [ee] at hsucc
    simp -implicitDefEqProofs [go_sem,hcc,u6,u7]
    refine ao _ kg1 (by simp [go_sem,u9]) ?_
    simp -implicitDefEqProofs [go_sem,v6,v7]
    refine ao _ kg2 (by simp [go_sem,v9]) ?_
    simp -implicitDefEqProofs [go_sem]
    refine aI (.inl rfl) (by omega) (by omega) (by simp -implicitDefEqProofs [go_sem]) (by simp<;>omega) (by simp -implicitDefEqProofs [go_sem]) ?_
    simp -implicitDefEqProofs [go_sem,e1]
    rw [hsucc] at hFr1
    have r1:=renL_ro (nm [(0,10)]) _ hFr1
    have r2:=cloL_ro (n:=1) _ hFr1
    exact ae ⟨k+1,b⟩ (by simp only; omega) [(0,10)] (by simp) (by simp only [hsucc,bP]; simp [nm]) (by simp) (by simp only [hsucc,eJ]; simp -implicitDefEqProofs [go_sem,renL_ro (nm [(0,10)]) _ hLr,cloL_ro (n:=1) _ hLr,renL_ro (nm [(0,10)]) _ prr,cloL_ro (n:=1) _ prr]) (by
     simp only [hsucc,bP]
     simp -implicitDefEqProofs [go_sem,r1,r2])
  ·have hkk:k=p.length:=by omega
   have b1:¬(k:Int)<p.length:=by omega
   subst hkk
   simp -implicitDefEqProofs [go_sem,b1,w1]
   exact ae ⟨i+1,a⟩ (by simp only; omega) [] (by simp) (fun _ _ _ _ h=>h) (by simp) (by simp -implicitDefEqProofs [go_sem,hGe,w1,renL_ro (nm []) _ hLr,cloL_ro (n:=1) _ hLr]) (by simp -implicitDefEqProofs [go_sem,hGe,renL_ro (nm []) _ (hHr (i+1)),cloL_ro (n:=1) _ (hHr (i+1))])
 ·have hii:i=L.length:=by omega
  have a1:¬(i:Int)<L.length:=by omega
  subst hii
  simp -implicitDefEqProofs [go_sem,a1]
  by_cases h:H L.length=[]
  ·simp -implicitDefEqProofs [go_sem,h]
   exact Wk.nil 0 12 true
  ·simp -implicitDefEqProofs [go_sem,aV h,h,hHir]
   exact Wk.refl _
theorem H0 (v0 v1 v2 v3 v4 v5:Int) (h0 : -9223372036854775808≤v0∧v0≤9223372036854775807) (h1 : -9223372036854775808≤v1∧v1≤9223372036854775807) (h2 : -9223372036854775808≤v2∧v2≤9223372036854775807) (h3 : -9223372036854775808≤v3∧v3≤9223372036854775807) (h4 : -9223372036854775808≤v4∧v4≤9223372036854775807) (h5 : -9223372036854775808≤v5∧v5≤9223372036854775807) :
 ag Tryz.prog 83 [.agg [.int .i64 v0,.int .i64 v1,.int .i64 v2,.int .i64 v3,.int .i64 v4,.int .i64 v5]] (KT ⟨(v0:Rat) / (65536:Int),(v1:Rat) / (65536:Int),(v2:Rat) / (65536:Int),(v3:Rat) / (65536:Int),(v4:Rat) / (64:Int),(v5:Rat) / (64:Int)⟩).av:=by
 have k0:=jb v0 65536 h0 (by omega)
 have k1:=jb v1 65536 h1 (by omega)
 have k2:=jb v2 65536 h2 (by omega)
 have k3:=jb v3 65536 h3 (by omega)
 have k4:=jb v4 64 h4 (by omega)
 have k5:=jb v5 64 h5 (by omega)
 generalize (v0:Rat) / (65536:Int)=r0 at *
 generalize (v1:Rat) / (65536:Int)=r1 at *
 generalize (v2:Rat) / (65536:Int)=r2 at *
 generalize (v3:Rat) / (65536:Int)=r3 at *
 generalize (v4:Rat) / (64:Int)=r4 at *
 generalize (v5:Rat) / (64:Int)=r5 at *
 have e:(KT ⟨r0,r1,r2,r3,r4,r5⟩).av = .agg (rC r0++(rC r1++(rC r2++(rC r3++(rC r4++rC r5))))):=rfl
 rw [e]
 simp only [bA] at *
 unfold rC at *
 refine Pg Tryz.func83 rfl [.cell 2 29] rfl (by simp -implicitDefEqProofs [go_sem]) ?_
 simp -implicitDefEqProofs [go_sem]
 refine aa k0 ?_
 simp -implicitDefEqProofs [go_sem]
 refine aa k1 ?_
 simp -implicitDefEqProofs [go_sem]
 refine aa k2 ?_
 simp -implicitDefEqProofs [go_sem]
 refine aa k3 ?_
 simp -implicitDefEqProofs [go_sem]
 refine aa k4 ?_
 simp -implicitDefEqProofs [go_sem]
 refine aa k5 ?_
 simp -implicitDefEqProofs [go_sem,aL]
theorem TT:yC (wP 4 0) (wP 4 4) 2 bB 0=([wP 5 0,wP 5 4,wP 3 4,wP 3 0],0):=by decide +kernel
theorem TU:CC (wP 4 0) ((wP 4 0).sub (wP 0 0)) ((wP 4 4).sub (wP 4 0)) 2 4 bB 0=([wP 4 0,wP 4 (-1),wP 5 (-1),wP 5 0],0):=by decide +kernel
theorem TV:GY (wP 0 0) ((wP 0 0).sub (wP 4 0)) 2 bB 0=([],0):=by decide +kernel
theorem TW:GY (wP 4 4) ((wP 4 4).sub (wP 4 0)) 2 bB 0=([],0):=by decide +kernel
theorem TX:bp [wP 0 0,wP 4 0,wP 4 4] false=[wP 0 0,wP 4 0,wP 4 4]:=by decide +kernel
theorem T6:c9 [wP 0 0,wP 4 0,wP 4 4] false (jz 0)=([[wP 0 (-1),wP 4 (-1),wP 4 1,wP 0 1],[wP 5 0,wP 5 4,wP 3 4,wP 3 0],[wP 4 0,wP 4 (-1),wP 5 (-1),wP 5 0]],0):=by
 have e1:(jz 0).width.val=2:=br _
 have e2:(jz 0).tol.val=bB:=br _
 have e3:(jz 0).miter.val=4:=br _
 have hm:qL (jz 0):=by
  unfold qL
  rw [e2,e3]
  decide +kernel
 unfold c9
 rw [if_neg (by rw [e1]; decide),if_neg (fun h=>h hm),TX,if_neg (by simp)]
 have hL:iz [wP 0 0,wP 4 0,wP 4 4] false (jz 0)=[yC (wP 0 0) (wP 4 0) 2 bB 0,yC (wP 4 0) (wP 4 4) 2 bB 0,CC (wP 4 0) ((wP 4 0).sub (wP 0 0)) ((wP 4 4).sub (wP 4 0)) 2 4 bB 0,GY (wP 0 0) ((wP 0 0).sub (wP 4 0)) 2 bB 0,GY (wP 4 4) ((wP 4 4).sub (wP 4 0)) 2 bB 0]:=by
  have:iz [wP 0 0,wP 4 0,wP 4 4] false (jz 0)=[fk (wP 0 0) (wP 4 0) (jz 0),fk (wP 4 0) (wP 4 4) (jz 0),dl (wP 4 0) ((wP 4 0).sub (wP 0 0)) ((wP 4 4).sub (wP 4 0)) (jz 0),gX (wP 0 0) ((wP 0 0).sub (wP 4 0)) (jz 0),gX (wP 4 4) ((wP 4 4).sub (wP 4 0)) (jz 0)]:=rfl
  rw [this,yD,yD,FM,Do,Do,e1,e2,e3]
  rfl
 rw [hL,TS,TT,TU,TV,TW]
 rfl
def Bp:MQ:=⟨1,0,0,-1,0,0⟩
theorem TY:cW Bp [wP 0 (-1),wP 4 (-1),wP 4 1,wP 0 1]=[wP 0 1,wP 0 (-1),wP 4 (-1),wP 4 1]:=by decide +kernel
theorem TZ:er [wP 0 1,wP 0 (-1),wP 4 (-1),wP 4 1]=er [wP 0 (-1),wP 4 (-1),wP 4 1,wP 0 1]:=by decide +kernel
theorem T4:(cB [[wP 0 (-1),wP 4 (-1),wP 4 1,wP 0 1]]).length=2:=by decide +kernel
theorem T5:Bp.det≠0:=by decide +kernel
theorem ub (l:List PQ):(l.map pc).map PR.val=l:=by
 rw [List.map_map]
 exact (List.map_congr_left fun x _=>aO x).trans (List.map_id _)
theorem KH (l:List PQ):(l.map pc).map PR.av=l.map pA:=by rw [List.map_map]; rfl
@[go_sem] theorem RI (a b c d e f:Int):ly Tryz.prog (some ⟨6,48,.array 6 2,[.int .i64 0,.int .i64 0,.int .i64 0,.int .i64 0,.int .i64 0,.int .i64 0]⟩) [(0,.int .i64 a),(1,.int .i64 b),(2,.int .i64 c),(3,.int .i64 d),(4,.int .i64 e),(5,.int .i64 f)]=some (True,.agg [.int .i64 a,.int .i64 b,.int .i64 c,.int .i64 d,.int .i64 e,.int .i64 f]):=by
 unfold ly
 simp -implicitDefEqProofs [go_sem]
 rfl
theorem fP:ag Tryz.prog 38 [] (.bool true):=by
 have zw:∀x y:Int,-100≤x∧x≤100 → -100≤y∧y≤100→(wP x y).sz≤1:=fun x y hx hy=>Qa (by omega) (by omega)
 have p00:=pp 0 0 (by omega) (by omega)
 have p40:=pp 4 0 (by omega) (by omega)
 have p44:=pp 4 4 (by omega) (by omega)
 have p5m:=pp 5 (-1) (by omega) (by omega)
 have kh:=bM 1 2 (by omega) (by omega) (by omega)
 rw [←dc] at kh
 have kst:=yO
 have s00:=zw 0 0 (by omega) (by omega)
 have s40:=zw 4 0 (by omega) (by omega)
 have s44:=zw 4 4 (by omega) (by omega)
 have hcy:yn qI [wP 0 0,wP 4 0,wP 4 4]:=by
  have e1:(wP 4 0).sub (wP 0 0)=wP 4 0:=by decide +kernel
  have e2:(wP 4 4).sub (wP 4 0)=wP 0 4:=by decide +kernel
  have e3:(wP 0 0).sub (wP 4 4)=wP (-4) (-4):=by decide +kernel
  refine ⟨⟨?_,?_,trivial⟩,?_⟩
  ·unfold qI; rw [e1]; exact s40
  ·unfold qI; rw [e2]; exact zw 0 4 (by omega) (by omega)
  ·change ((wP 0 0).sub (wP 4 4)).sz≤1
   rw [e3]; exact zw (-4) (-4) (by omega) (by omega)
 have kp:=eE ([wP 0 0,wP 4 0,wP 4 4].map pc) false (jz 0) (by simp) (fun p hp=>by
  simp only [List.map_cons,List.map_nil,List.mem_cons,List.not_mem_nil,or_false] at hp
  rcases hp with rfl|rfl|rfl
  ·exact be s00
  ·exact be s40
  ·exact be s44) (by rw [ub]; exact hcy) (A6 0).inn fun _=>A6 0
 rw [ub,T6] at kp
 have km:=H0 65536 0 0 (-65536) 0 0 (by omega) (by omega) (by omega) (by omega) (by omega) (by omega)
 have eM:(⟨((65536:Int):Rat) / (65536:Int),((0:Int):Rat) / (65536:Int),((0:Int):Rat) / (65536:Int),((-65536:Int):Rat) / (65536:Int),((0:Int):Rat) / (64:Int),((0:Int):Rat) / (64:Int)⟩:MQ)=Bp:=by unfold Bp; simp only [MQ.mk.injEq]; decide +kernel
 rw [eM] at km
 have z1:sz (1:Rat)≤1:=by rw [eH]; exact Nat.le_refl _
 have z0:sz (0:Rat)≤1:=by rw [show sz 0=1 from by have:=nX 0; simpa [oP] using this]; omega
 have zm:sz (-1:Rat)≤1:=by rw [sz_neg]; exact z1
 obtain ⟨B1,hB1⟩:∃B1,B1=[wP 0 (-1),wP 4 (-1),wP 4 1,wP 0 1]:=⟨_,rfl⟩
 obtain ⟨B2,hB2⟩:∃B2,B2=[wP 5 0,wP 5 4,wP 3 4,wP 3 0]:=⟨_,rfl⟩
 obtain ⟨B3,hB3⟩:∃B3,B3=[wP 4 0,wP 4 (-1),wP 5 (-1),wP 5 0]:=⟨_,rfl⟩
 have hz1:∀p∈B1,p.sz≤1:=by
  rw [hB1]; intro p hp
  simp only [List.mem_cons,List.not_mem_nil,or_false] at hp
  rcases hp with rfl|rfl|rfl|rfl<;>exact zw _ _ (by omega) (by omega)
 have hz2:∀p∈B2,p.sz≤1:=by
  rw [hB2]; intro p hp
  simp only [List.mem_cons,List.not_mem_nil,or_false] at hp
  rcases hp with rfl|rfl|rfl|rfl<;>exact zw _ _ (by omega) (by omega)
 have hz3:∀p∈B3,p.sz≤1:=by
  rw [hB3]; intro p hp
  simp only [List.mem_cons,List.not_mem_nil,or_false] at hp
  rcases hp with rfl|rfl|rfl|rfl<;>exact zw _ _ (by omega) (by omega)
 have kma:=lY [B1.map pc,B2.map pc,B3.map pc] (KT Bp) (by simp) (fun p hp=>by
  simp only [List.mem_cons,List.not_mem_nil,or_false] at hp
  rcases hp with rfl|rfl|rfl<;>simp [hB1,hB2,hB3]) (fun p hp q hq=>by
  simp only [List.mem_cons,List.not_mem_nil,or_false] at hp
  rcases hp with rfl|rfl|rfl
  ·obtain ⟨x,hx,rfl⟩:=List.mem_map.1 hq; exact (be (hz1 x hx)).mono
  ·obtain ⟨x,hx,rfl⟩:=List.mem_map.1 hq; exact (be (hz2 x hx)).mono
  ·obtain ⟨x,hx,rfl⟩:=List.mem_map.1 hq; exact (be (hz3 x hx)).mono) ⟨fL (by show sz (1:Rat)≤_; omega),fL (by show sz (0:Rat)≤_; omega),fL (by show sz (0:Rat)≤_; omega),fL (by show sz (-1:Rat)≤_; omega),fL (by show sz (0:Rat)≤_; omega),fL (by show sz (0:Rat)≤_; omega)⟩
 rw [JO,if_neg T5] at kma
 have hmp:H3 Bp [B1.map pc,B2.map pc,B3.map pc] = .sl 1 false [.sl 6 false ([wP 0 1,wP 0 (-1),wP 4 (-1),wP 4 1].map pA),tw Bp (B2.map pc),tw Bp (B3.map pc)]:=by
  unfold H3
  have:tw Bp (B1.map pc) = .sl 6 false ([wP 0 1,wP 0 (-1),wP 4 (-1),wP 4 1].map pA):=by
   unfold tw
   rw [ub,hB1,TY]
   rfl
  simp only [List.map_cons,List.map_nil,this]
 rw [hmp] at kma
 have ke:=sG [B1.map pc] (by simp) (fun p hp=>by
  simp only [List.mem_cons,List.not_mem_nil,or_false] at hp
  subst hp; simp [hB1]) (fun p hp q hq=>by
  simp only [List.mem_cons,List.not_mem_nil,or_false] at hp
  subst hp
  obtain ⟨x,hx,rfl⟩:=List.mem_map.1 hq; exact (be (hz1 x hx)).mono)
 have hE1:([B1.map pc].map fun p=>p.map PR.val)=[B1]:=by simp only [List.map_cons,List.map_nil,ub]
 rw [hE1] at ke
 have hel:((cB [B1]).map Bm).length=2:=by rw [List.length_map,hB1]; exact T4
 have ka0:=pD B1 1 (by rw [hB1]; simp) (by rw [hB1]; simp) hz1 (by rw [hB1]; simp)
 have ka1:=pD [wP 0 1,wP 0 (-1),wP 4 (-1),wP 4 1] 1 (by simp) (by simp) (fun p hp=>by
  simp only [List.mem_cons,List.not_mem_nil,or_false] at hp
  rcases hp with rfl|rfl|rfl|rfl<;>exact zw _ _ (by omega) (by omega)) (by simp)
 rw [TZ,←hB1] at ka1
 have hza:=A_ hz1 (by rw [hB1]; simp)
 have kc:=oU (er B1) (er B1) (by omega) (by omega)
 rw [EH] at kc
 have ks:=CG (wP 5 (-1)) (by have:=zw 5 (-1) (by omega) (by omega); omega)
 have l0:(jz 0).cs.length=11:=rfl
 have l2:=(jz 0).ro_cs
 have l3:(jz 0).cs.take 11=(jz 0).cs:=rfl
 have m0:(KT Bp).cs.length=18:=rfl
 have m2:=(KT Bp).ro_cs
 rw [←hB1,←hB2,←hB3] at kp
 have b3l:B3.length=4:=by rw [hB3]; rfl
 have g3:bU (B3.map pA) 2 = .agg (pC (wP 5 (-1))):=by rw [hB3]; rfl
 have gE:∀a b c:AV,bU [a,b,c] 2=c:=fun _ _ _=>rfl
 have gE0:∀a b c:AV,bU [a,b,c] 0=a:=fun _ _ _=>rfl
 clear hB1 hB2 hB3 hz1 hz2 hz3
 unfold qO yq at kp
 unfold GX at ke
 unfold I5 at kma ke
 unfold SR.av MR.av fK pL at *
 have epc:∀p:PQ,(pc p).av = .agg (pC p):=fun _=>rfl
 have ro2:=CP Bp (B2.map pc)
 have ro3:=CP Bp (B3.map pc)
 generalize tw Bp (B2.map pc)=E2 at *
 generalize tw Bp (B3.map pc)=E3 at *
 generalize (jz 0).cs=S0 at *
 generalize (KT Bp).cs=M0 at *
 have hEr:=nR (cB [B1])
 have hv:=fun f=>viewL_ro f _ l2
 have hfi:=fun f=>fitsL_ro f _ l2
 generalize (cB [B1]).map Bm=EE at *
 simp only [List.map_cons,List.map_nil,KH,epc] at kp kma ke
 generalize er B1=ar at *
 refine Pg Tryz.func38 rfl [.tmp 0] rfl (by simp -implicitDefEqProofs [go_sem]) ?_
 simp only [aQ,bA] at *
 simp -implicitDefEqProofs [go_sem]
 refine ac kh ?_
 simp -implicitDefEqProofs [go_sem]
 refine ac kst ?_
 simp -implicitDefEqProofs [go_sem,l0]
 refine aa p00 ?_
 simp -implicitDefEqProofs [go_sem]
 refine aa p40 ?_
 simp -implicitDefEqProofs [go_sem]
 refine aa p44 ?_
 simp -implicitDefEqProofs [go_sem,l0,l3]
 refine lN [7] _ (by kernel_rfl) kp (by simp -implicitDefEqProofs [go_sem,hv]) (by simp -implicitDefEqProofs [go_sem,l2]) (by simp -implicitDefEqProofs [go_sem,hfi]) (by simp -implicitDefEqProofs [go_sem]) ?_
 simp -implicitDefEqProofs [go_sem,gE,b3l]
 refine ac km ?_
 simp -implicitDefEqProofs [go_sem]
 refine ah _ kma (by simp [go_sem,m2]) ?_
 simp -implicitDefEqProofs [go_sem]
 refine ac ke ?_
 simp -implicitDefEqProofs [go_sem,hel,gE0]
 refine aa ka1 ?_
 simp -implicitDefEqProofs [go_sem,gE0]
 refine aa ka0 ?_
 simp -implicitDefEqProofs [go_sem]
 refine aa kc ?_
 simp -implicitDefEqProofs [go_sem,gE,b3l,g3]
 refine aa p5m ?_
 simp -implicitDefEqProofs [go_sem]
 refine aa ks ?_
 simp -implicitDefEqProofs [go_sem]
theorem Dy {α:Type} {g:α→AV} {l:List α} {i:Nat} (h:i<l.length):bU (l.map g) (i:Int)=g l[i]:=by
 unfold bU
 rw [Int.toNat_natCast,List.getD_eq_getElem?_getD,List.getElem?_map,List.getElem?_eq_getElem h]; rfl
theorem jy (l:List PR) (m:Nat) (hl:l.length≤9223372036854775807):ag Tryz.prog 23 [fK l,.int .i64 m] (.bool (decide (∀p∈l,p.x.sml m∧p.y.sml m))):=by
 have hk:=fun p:PR=>i8 p m
 refine Pg Tryz.func23 rfl [.tmp 4] rfl (by simp -implicitDefEqProofs [go_sem]) ?_
 have hr:=iR l
 have hg:∀i (h:i<l.length),bU (l.map PR.av) (i:Int) = .agg l[i].cs:=fun i h=>Dy h
 have hPl:(l.map PR.av).length=l.length:=by simp
 unfold fK
 generalize l.map PR.av=V at *
 simp -implicitDefEqProofs [go_sem]
 refine ap 0 (α:={i:Nat // i≤l.length∧∀j (h:j<l.length),j<i→l[j].x.sml m∧l[j].y.sml m}) (fun i=>[(0,.sl 6 false V),(1,.int .i64 m),(5,.int .i64 i.1)]) (fun _=>[]) (fun i=>l.length-i.1) ⟨0,Nat.zero_le _,fun j _ h=>absurd h (by omega)⟩ [] (by simp) (fun _ _ _ _ h=>h) (by simp) (by simp -implicitDefEqProofs [go_sem,renL_ro (nm []) _ hr,cloL_ro (n:=0) _ hr]) (by simp -implicitDefEqProofs [go_sem]) fun ⟨i,hi,hj⟩=>?_
 by_cases a:i<l.length
 ·have a1:(i:Int)<l.length:=by omega
  have g:=hg i a
  have k:=hk l[i]
  have es:=wS i (by omega)
  have u6:l[i].cs.length=6:=rfl
  have u7:l[i].cs.take 6=l[i].cs:=rfl
  have u9:=l[i].ro_cs
  rw [PR.av_cs] at k
  by_cases b:l[i].x.sml m∧l[i].y.sml m
  ·have hn:∀j (h:j<l.length),j<i+1→l[j].x.sml m∧l[j].y.sml m:=fun j h h'=>by
    rcases Nat.lt_or_ge j i with h2|h2
    ·exact hj j h h2
    ·have:j=i:=by omega
     subst this; exact b
   rw [decide_eq_true b] at k
   generalize l[i].cs=S at *
   simp -implicitDefEqProofs [go_sem,a1,a,hPl,g,u6,u7]
   refine ah _ k (by simp [go_sem,u9]) ?_
   simp -implicitDefEqProofs [go_sem,es]
   exact ae ⟨i+1,a,hn⟩ (by simp only; omega) [] (by simp) (fun _ _ _ _ h=>h) (by simp) (by simp -implicitDefEqProofs [go_sem,renL_ro (nm []) _ hr,cloL_ro (n:=0) _ hr]) (by simp -implicitDefEqProofs [go_sem])
  ·have hF:decide (∀p∈l,p.x.sml m∧p.y.sml m)=false:=decide_eq_false fun h=>b (h _ (List.getElem_mem a))
   rw [decide_eq_false b] at k
   rw [hF]
   generalize l[i].cs=S at *
   simp -implicitDefEqProofs [go_sem,a1,a,hPl,g,u6,u7]
   refine ah _ k (by simp [go_sem,u9]) ?_
   simp -implicitDefEqProofs [go_sem]
 ·have a1:¬(i:Int)<l.length:=by omega
  have hT:decide (∀p∈l,p.x.sml m∧p.y.sml m)=true:=decide_eq_true fun p hp=>by
   obtain ⟨j,h,rfl⟩:=List.mem_iff_getElem.1 hp
   exact hj j h (by omega)
  rw [hT]
  simp -implicitDefEqProofs [go_sem,a1,hPl]
structure MR.Lm (m:MR):Prop where
 a:m.a.Lm
 b:m.b.Lm
 c:m.c.Lm
 d:m.d.Lm
 e:m.e.Lm
 f:m.f.Lm
open Go.ChangeShapes Go.WideShapes Go.ChangeAt Go.RowKit
section
variable {H:Type} {enc:TypeId×Value→H} {P:Program} {w:World}
def ui (n:Nat) (cs:List Value):Prop:=∀v∈cs,∀a len cap,v = .slice a len cap→len≤n
theorem ui.mono {n m:Nat} {cs:List Value} (h:ui n cs) (hn:n≤m):ui m cs:=fun v hv a len cap e=>Nat.le_trans (h v hv a len cap e) hn
theorem ui.len {n:Nat} {cx:Cx}:∀ {l:List AV} {cs:List Value},ui n cs→Rl cx l cs→∀sz t L,AV.sl sz t L∈l→L.length≤n
 | [],cs,_,_,sz,t,L,h=>by cases h
 | a::l,cs,hs,hr,sz,t,L,h=>by
  simp only [Rl] at hr
  obtain ⟨v,r,rfl,h1,h2⟩:=hr
  rcases List.mem_cons.1 h with rfl|h
  ·simp only [Rv] at h1
   obtain ⟨a,cap,rfl,_⟩:=h1
   exact hs _ List.mem_cons_self _ _ _ rfl
  ·exact ui.len (fun v hv=>hs v (List.mem_cons_of_mem _ hv)) h2 sz t L h
end
section
variable {H:Type} {enc:TypeId×Value→H} {w:World}
theorem D2:oe enc Tryz.prog w 53 fun l=>∃v:List PR,v.length≤9223372036854775807∧(∀p∈v,p.Lm)∧l=[fK v] :=
 (uw (e:=72) (sz:=6) (by kernel_rfl) (by kernel_rfl) (by omega) Mo).mono fun l ⟨L,h1,h2,h3⟩=>by
  have key:∃v:List PR,(∀p∈v,p.Lm)∧L=v.map PR.av:=by
   clear h1 h2
   induction L with
   | nil=>exact ⟨[],by simp,rfl⟩
   | cons a L ih =>
    obtain ⟨v,k1,rfl⟩:=ih fun x hx=>h3 x (by simp [hx])
    obtain ⟨l',⟨p,g1,rfl⟩,rfl⟩:=h3 a (by simp)
    refine ⟨p::v,fun x hx=>?_,rfl⟩
    rcases List.mem_cons.1 hx with rfl|hx
    ·exact g1
    ·exact k1 x hx
  obtain ⟨v,k1,rfl⟩:=key
  exact ⟨v,by simpa using h2,k1,h1⟩
end
end Go.Proofs.YtdnmfaljidjijaaGreat
