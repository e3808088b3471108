import Derived.Test.YtdnmfaljidjijaaGreatPk02
import Derived.ProofKit
import Derived.Carry
import Derived.OpenShut
namespace Go.Proofs.YtdnmfaljidjijaaGreat
set_option maxHeartbeats 8000000
open Go Go.Proofs
set_option linter.unusedSimpArgs false
set_option linter.unusedVariables false
set_option maxRecDepth 20000
theorem c_ (l:List Nat) (hl:cH l):ab Tryz.prog 153 [mA l] (mA (aI l)):=by
 unfold cH at hl
 refine Pg Tryz.func153 rfl [.tmp 2] rfl (F4 _) ?_
 simp -implicitDefEqProofs [go_sem]
 refine aj 9 (α:={k:Nat // k≤l.length∧aI (l.take k)=aI l}) (fun k=>[(0,mA l),(3,.int .i64 k.1)]) (fun k=>[]) (fun k=>k.1) ⟨l.length,by simp⟩ [] (by simp) (by simp) (by simp) (by simp -implicitDefEqProofs [go_sem]) (by simp) fun ⟨k,hk1,hk2⟩=>?_
 have e1:0<k→IntKind.i64.wrap ((k:Int)-1)=(k-1:Nat):=fun h=>by rw [bO (by omega)]; omega
 rcases Nat.eq_zero_or_pos k with h|h
 ·subst h
  have hz:aI l=[]:=by rw [←hk2]; rfl
  simp -implicitDefEqProofs [go_sem,hz]
 ·have hg:=aQ .u32 (l:=l) (i:=k-1) (by omega)
  have hk:k-1<l.length:=by omega
  simp -implicitDefEqProofs [go_sem,e1 h,hg,h]
  refine ⟨by omega,fun h0=>?_,fun h0=>?_⟩
  ·have ht:aI (l.take (k-1))=aI l:=by
    have:=mC hk (by simpa using h0)
    rw [show k-1+1=k by omega] at this
    rw [←this,hk2]
   refine ae ⟨k-1,by omega,ht⟩ (by simp only; omega) [] (by simp) (by simp) (by simp) (by simp -implicitDefEqProofs [go_sem]) (by simp)
  ·have:=mB hk (by simpa using h0)
   rw [show k-1+1=k by omega] at this
   refine ⟨hk1,by rw [jE,←this,hk2],by rw [jE]; simp -implicitDefEqProofs [go_sem]⟩
theorem we {z:Bool} {ne:Nat} {Q:AEx→St→Prop} {k:List Itm} {t:Nat→AV} {f:Nat→BS} {n:Nat} {g:FuncId} {d:Option Tmp} {id:Nat} {kd:IntKind} {l:List Nat} {r:AV} (hp:ab Tryz.prog g [.sl 1 false (uA kd l)] r) (hf:l≠[]→f id = .live 1 (uA kd l)) (h:∀f',go Tryz.prog z ne Q k (aG t d r) f' n):zM Tryz.prog z ne Q g [b9 1 id (uA kd l)] d k t f n:=by
 by_cases hl:l=[]
 ·subst hl
  exact ai _ (hp.args (.cons (Wk.nil 0 1 true) .nil)) (by simp -implicitDefEqProofs [go_sem]) (h _)
 ·have hne:uA kd l≠[]:=by simpa [uA] using hl
  rw [aN hne]
  refine bT [id] _ hp (by simp -implicitDefEqProofs [go_sem,hf hl,cW]) (by simp -implicitDefEqProofs [go_sem]) (by simp -implicitDefEqProofs [go_sem,hf hl]) (by simp -implicitDefEqProofs [go_sem,hf hl]) (h _)
def qA (n:Nat):AV:=mA (am 4294967296 n)
@[go_sem] theorem uL (n:Nat):ro (qA n):=F4 _
theorem iq (a b:Nat) (ha:cH (am 4294967296 a)) (hb:cH (am 4294967296 b)):ab Tryz.prog 217 [qA a,qA b] (.int .i64 (bI a b)):=by
 unfold cH at ha hb
 have hva:=aq (B:=4294967296) (by omega) a
 have hvb:=aq (B:=4294967296) (by omega) b
 have hla:=an (B:=4294967296) (by omega) a
 have hlb:=an (B:=4294967296) (by omega) b
 have hlt:=dS (B:=4294967296) (by omega) hla (n:=b)
 have hgt:=dS (B:=4294967296) (by omega) hlb (n:=a)
 unfold qA
 generalize am 4294967296 a=x at *
 generalize am 4294967296 b=y at *
 refine Pg Tryz.func217 rfl [.tmp 4] rfl (by simp -implicitDefEqProofs [go_sem]) ?_
 simp -implicitDefEqProofs [go_sem]
 refine ⟨fun hne=>⟨fun h=>?_,fun h=>?_⟩,fun heq=>?_⟩
 ·rw [dg]; have:=hlt h; omega
 ·rw [cJ]; have:=hgt (by omega); omega
 ·rw [bO (by omega)]
  refine aj 9 (α:={i:Nat // i≤x.length∧x.drop i=y.drop i}) (fun i=>[(0,mA x),(1,mA y),(5,.int .i64 ((i.1:Int)-1))]) (fun i=>[]) (fun i=>i.1) ⟨x.length,by simp; omega⟩ [] (by simp) (by simp) (by simp) (by simp -implicitDefEqProofs [go_sem]) (by simp) fun ⟨i,hi,hd⟩=>?_
  simp -implicitDefEqProofs [go_sem]
  refine ⟨fun h=>?_,fun h=>?_⟩
  ·obtain ⟨k,hk⟩:∃k,k=i-1:=⟨_,rfl⟩
   have hik:i=k+1:=by omega
   subst hik
   have e1:(((k+1:Nat):Int)-1)=(k:Nat):=by omega
   have g1:=aQ .u32 (l:=x) (i:=k) (by omega)
   have g2:=aQ .u32 (l:=y) (i:=k) (by omega)
   have l1:=kR (B:=4294967296) hla (x:=x) (y:=y) (k:=k) (by omega) (by omega) hd
   have l2:=kR (B:=4294967296) hlb (x:=y) (y:=x) (k:=k) (by omega) (by omega) hd.symm
   rw [hva,hvb] at l1 l2
   have hkx:k<x.length:=by omega
   have hky:k<y.length:=by omega
   have hdd:x.getD k 0=y.getD k 0→x.drop k=y.drop k:=fun e=>by
    rw [List.drop_eq_getElem_cons hkx,List.drop_eq_getElem_cons hky,hd]
    congr 1
    rw [List.getD_eq_getElem?_getD,List.getD_eq_getElem?_getD,List.getElem?_eq_getElem hkx,List.getElem?_eq_getElem hky] at e
    exact e
   generalize x.getD k 0=u at *
   generalize y.getD k 0=w at *
   simp -implicitDefEqProofs [go_sem,e1,g1,g2]
   refine ⟨⟨by omega,hkx⟩,hky,fun hne=>⟨hkx,hky,fun h=>?_,fun h=>?_⟩,fun he=>?_⟩
   ·rw [dg]; have:=l1 h; omega
   ·rw [cJ]; have:=l2 (by omega); omega
   ·rw [bO (by omega)]
    exact ae ⟨k,by omega,hdd (by omega)⟩ (by simp only; omega) [] (by simp) (by simp) (by simp) (by simp -implicitDefEqProofs [go_sem]) (by simp)
  ·have:i=0:=by omega
   subst this
   simp only [List.drop_zero] at hd
   rw [show a=b by rw [←hva,←hvb,hd],eQ]
theorem yv (i:Nat):4294967296 ^ (2*i)=18446744073709551616 ^ i:=by
 rw [Nat.pow_mul]
theorem s9 (x:Nat):IntKind.u32.wrap (x:Int)=(x%4294967296:Nat):=by
 simp only [IntKind.wrap,IntKind.bits,IntKind.signed]
 simp only [Bool.false_and,Bool.false_eq_true,if_false]
 omega
theorem xl (x:Nat):(x:Int).fdiv 4294967296=(x / 4294967296:Nat):=by
 have:=ph x 32
 rw [show (2:Int) ^ 32=4294967296 by rfl] at this
 rw [this]
@[go_sem] theorem Jj (sz id:Nat) (l:List AV) (x y:AV):b9 sz id (l++[x,y]) = .own sz id 0 (l.length+2):=by simp [b9]
@[go_sem] theorem Ji (sz id:Nat) (l:List AV) (x y:AV):dZ sz id (l++[x,y])=[(id,.live sz (l++[x,y]))]:=by simp [dZ]
theorem r_ (a:List Nat) (ha:cf a) (la:bu 18446744073709551616 a):ab Tryz.prog 74 [nA a] (qA (lv 18446744073709551616 a)):=by
 unfold cf at ha
 refine Pg Tryz.func74 rfl [.tmp 2] rfl (uL _) ?_
 simp -implicitDefEqProofs [go_sem]
 refine aj 9 (α:={p:List Nat×Nat // p.2≤a.length∧p.1.length=2*p.2∧bu 4294967296 p.1∧lv 4294967296 p.1=lv 18446744073709551616 (a.take p.2)}) (fun p=>[(0,nA a),(3,b9 1 8 (uA .u32 p.1.1)),(4,.int .i64 p.1.2)]) (fun p=>dZ 1 8 (uA .u32 p.1.1)) (fun p=>a.length-p.1.2) ⟨([],0),by simp [dI]⟩ [] (by simp) (by simp [go_sem]) (by simp) (by simp -implicitDefEqProofs [go_sem]) (by simp [go_sem]) fun ⟨⟨out,i⟩,h1,h2,h3,h4⟩=>?_
 simp only at h1 h2 h3 h4
 simp -implicitDefEqProofs [go_sem]
 refine ⟨fun h=>?_,fun h=>?_⟩
 ·have hg:=aQ .u64 (l:=a) (i:=i) (by omega)
  have hx:=la.getD (by omega) i
  have t1:=aA 18446744073709551616 a i
  obtain ⟨x,hxe⟩:∃x,x=a.getD i 0:=⟨_,rfl⟩
  rw [←hxe] at hg hx t1
  have e3:IntKind.i64.wrap ((i:Int)+1)=((i+1:Nat):Int):=by rw [bO (by omega)]; omega
  have w1:=s9 x
  have w2:=s9 (x / 4294967296)
  obtain ⟨lo,hlo⟩:∃j,j=x%4294967296:=⟨_,rfl⟩
  obtain ⟨hi,hhi⟩:∃j,j=x / 4294967296:=⟨_,rfl⟩
  have s1:=xl x
  rw [←hhi] at w2 s1
  rw [Nat.mod_eq_of_lt (by omega)] at w2
  rw [←hlo] at w1
  simp -implicitDefEqProofs [go_sem,hg,w1,w2,s1]
  refine ⟨h,bf (by simp [go_sem]) (by omega) (by omega) (by simp [go_sem]) (by simp; omega) (fun hne=>by simp [go_sem,hne]) ?_⟩
  simp -implicitDefEqProofs [go_sem,e3]
  refine ae ⟨(out++[lo,hi],i+1),Nat.succ_le_of_lt h,by simp [h2]; omega,bm.2 ⟨h3,fun z hz=>by simp at hz; omega⟩,?_⟩ (by simp only; omega) [(8,22)] (by simp) (by simp [go_sem,aL]) (by simp) (by simp -implicitDefEqProofs [go_sem,aL]) (by simp -implicitDefEqProofs [go_sem,aL])
  simp only
  rw [bG,h2,yv,t1,h4]
  simp only [bH,dt,Nat.mul_zero,Nat.add_zero]
  rw [show lo+4294967296*hi=x by omega]
 ·have e:i=a.length:=by omega
  rw [e,List.take_length] at h4
  refine we (kd := .u32) (c_ out (by unfold cH; omega)) (fun hne=>by simp -implicitDefEqProofs [go_sem,uA,hne]) fun f'=>?_
  rw [aK (by omega) h3,h4]
  simp -implicitDefEqProofs [go_sem,qA]
theorem jw (v:Nat) (h:v<18446744073709551616):ab Tryz.prog 75 [.int .u64 v] (qA v):=by
 refine Pg Tryz.func75 rfl [.tmp 2] rfl (uL _) ?_
 have hin:=r_ [v] (by unfold cf; simp) (fun z hz=>by simp at hz; omega)
 rw [show lv 18446744073709551616 [v]=v by simp] at hin
 simp -implicitDefEqProofs [go_sem]
 refine bT [0] _ hin (by simp -implicitDefEqProofs [go_sem]) (by simp -implicitDefEqProofs [go_sem]) (by simp -implicitDefEqProofs [go_sem]) (by simp -implicitDefEqProofs [go_sem]) ?_
 simp -implicitDefEqProofs [go_sem,qA]
theorem rQ {l:List Nat} {i:Nat} (h:l.length≤i):l.getD i 0=0:=by
 rw [List.getD_eq_getElem?_getD,List.getElem?_eq_none h]; rfl
theorem vr (A V:Nat) (ha:cf (am 4294967296 A)) (hb:cf (am 4294967296 V)):ab Tryz.prog 297 [qA A,qA V] (qA (A+V)):=by
 unfold cf at ha hb
 have hva:=aq (B:=4294967296) (by omega) A
 have hvb:=aq (B:=4294967296) (by omega) V
 have la:=an (B:=4294967296) (by omega) A
 have lb:=an (B:=4294967296) (by omega) V
 refine Pg Tryz.func297 rfl [.tmp 4] rfl (uL _) ?_
 unfold qA
 rw [←hva,←hvb]
 rw [hva,hvb]
 generalize am 4294967296 A=a at *
 generalize am 4294967296 V=b at *
 obtain ⟨m,hm⟩:∃m:Nat,m=max a.length b.length:=⟨_,rfl⟩
 have em:(if a.length<b.length then (b.length:Int) else a.length)=(m:Nat):=by split<;>omega
 have em1:IntKind.i64.wrap ((m:Int)+1)=(m:Int)+1:=bO (by omega)
 simp -implicitDefEqProofs [go_sem,em,em1]
 refine ⟨by omega,?_⟩
 refine aj 9 (α:={p:List Nat×Nat // (p.1.length≤m∨(p.1.length=m+1∧p.2=0))∧p.2≤1∧bu 4294967296 p.1∧lv 4294967296 p.1+4294967296 ^ p.1.length*p.2=lv 4294967296 (a.take p.1.length)+lv 4294967296 (b.take p.1.length)}) (fun p=>[(0,mA a),(1,mA b),(5,.own 1 0 0 p.1.1.length),(6,.int .u64 p.1.2),(7,.int .i64 p.1.1.length)]) (fun p=>[(0,.live 1 (uA .u32 p.1.1))]) (fun p=>m+1-p.1.1.length) ⟨([],0),by simp [dI]⟩ [] (by simp) (by simp) (by simp) (by simp -implicitDefEqProofs [go_sem]) (by simp -implicitDefEqProofs [go_sem]) fun ⟨⟨out,c⟩,h1,h2,h3,h4⟩=>?_
 simp only at h1 h2 h3 h4
 obtain ⟨i,hi⟩:∃i,i=out.length:=⟨_,rfl⟩
 have hx:=la.getD (by omega) i
 have hy:=lb.getD (by omega) i
 have t1:=aA 4294967296 a i
 have t2:=aA 4294967296 b i
 have ga:=fun h=>aQ .u32 (l:=a) (i:=i) h
 have gb:=fun h=>aQ .u32 (l:=b) (i:=i) h
 have za:=fun h=>rQ (l:=a) (i:=i) h
 have zb:=fun h=>rQ (l:=b) (i:=i) h
 obtain ⟨x,hxe⟩:∃x,x=a.getD i 0:=⟨_,rfl⟩
 obtain ⟨y,hye⟩:∃y,y=b.getD i 0:=⟨_,rfl⟩
 rw [←hxe] at hx t1 ga za
 rw [←hye] at hy t2 gb zb
 have wx:IntKind.u64.wrap (x:Int)=x:=bE (by omega)
 have wy:IntKind.u64.wrap (y:Int)=y:=bE (by omega)
 obtain ⟨cx,hcx⟩:∃q,q=c+x:=⟨_,rfl⟩
 have wcx:IntKind.u64.wrap ((c:Int)+x)=(cx:Nat):=by rw [bE (by omega)]; omega
 obtain ⟨v,hv⟩:∃q,q=cx+y:=⟨_,rfl⟩
 have wv:IntKind.u64.wrap ((cx:Int)+y)=(v:Nat):=by rw [bE (by omega)]; omega
 have wv2:x=0→IntKind.u64.wrap ((c:Int)+y)=(v:Nat):=fun h=>by rw [bE (by omega)]; omega
 have w1:=s9 v
 have s1:=xl v
 have hdm:=Nat.mod_add_div v 4294967296
 have hlo:v%4294967296<4294967296:=Nat.mod_lt _ (by omega)
 obtain ⟨lo,hlo2⟩:∃j,j=v%4294967296:=⟨_,rfl⟩
 obtain ⟨c2,hc2⟩:∃j,j=v / 4294967296:=⟨_,rfl⟩
 rw [←hlo2] at w1 hdm hlo
 rw [←hc2] at s1 hdm
 have es:=wS i (by omega)
 have hcont:i<m∨0<c→m+1-(i+1)<m+1-i∧(i+1≤m∨(i+1=m+1∧c2=0)):=fun h=>by
  refine ⟨by omega,?_⟩
  rcases Nat.lt_or_ge i m with h5|h5
  ·omega
  ·right
   have:=za (by omega); have:=zb (by omega)
   omega
 have hinv:lv 4294967296 (out++[lo])+4294967296 ^ (i+1)*c2=lv 4294967296 (a.take (i+1))+lv 4294967296 (b.take (i+1)):=by
  rw [eR,t1,t2,←hi,Nat.pow_succ]
  rw [←hi] at h4
  have h7:4294967296 ^ i*(lo+4294967296*c2)=4294967296 ^ i*(c+x+y):=by rw [hdm,hv,hcx]
  simp only [Nat.mul_add,←Nat.mul_assoc] at h7 h4 ⊢
  omega
 rw [←hi] at h1 h4
 by_cases hgo:i<m∨0<c
 ·obtain ⟨hc3,hc4⟩:=hcont hgo
  have hc2':c2≤1:=by omega
  have hag:(out++[lo]).length=i+1:=by simp [hi]
  have hlo3:bu 4294967296 (out++[lo]):=bm.2 ⟨h3,by simpa [bu] using hlo⟩
  have htk:(uA .u32 out).take i=uA .u32 out:=by rw [hi]; exact cW _ _
  by_cases ia:i<a.length
  ·have ga:=ga ia
   have im:i<m:=by omega
   by_cases ib:i<b.length
   ·have gb:=gb ib
    simp -implicitDefEqProofs [go_sem,←hi,em,ia,ib,im,ga,gb,wx,wy,wcx,wv,w1,s1,htk,es]
    refine ⟨by omega,ae ⟨(out++[lo],c2),by simp only [hag]; exact hc4,hc2',hlo3,by simp only [hag]; exact hinv⟩ (by simp only [hag,←hi]; exact hc3) [(0,10)] (by simp) (by simp) (by simp) (by simp -implicitDefEqProofs [go_sem,←hi]) (by simp -implicitDefEqProofs [go_sem,aL])⟩
   ·have hy0:=zb (by omega)
    have hvx:v=cx:=by omega
    rw [hvx] at w1 s1
    simp -implicitDefEqProofs [go_sem,←hi,em,ia,ib,im,ga,wx,wcx,w1,s1,htk,es]
    refine ⟨by omega,ae ⟨(out++[lo],c2),by simp only [hag]; exact hc4,hc2',hlo3,by simp only [hag]; exact hinv⟩ (by simp only [hag,←hi]; exact hc3) [(0,10)] (by simp) (by simp) (by simp) (by simp -implicitDefEqProofs [go_sem,←hi]) (by simp -implicitDefEqProofs [go_sem,aL])⟩
  ·have hx0:=za (by omega)
   by_cases ib:i<b.length
   ·have gb:=gb ib
    have im:i<m:=by omega
    have wv2:=wv2 hx0
    simp -implicitDefEqProofs [go_sem,←hi,em,ia,ib,im,gb,wy,wv2,w1,s1,htk,es]
    refine ⟨by omega,ae ⟨(out++[lo],c2),by simp only [hag]; exact hc4,hc2',hlo3,by simp only [hag]; exact hinv⟩ (by simp only [hag,←hi]; exact hc3) [(0,10)] (by simp) (by simp) (by simp) (by simp -implicitDefEqProofs [go_sem,←hi]) (by simp -implicitDefEqProofs [go_sem,aL])⟩
   ·have hy0:=zb (by omega)
    have im:¬i<m:=by omega
    have c0:0<c:=by omega
    have hvc:v=c:=by omega
    rw [hvc] at w1 s1
    simp -implicitDefEqProofs [go_sem,←hi,em,ia,ib,im,c0,w1,s1,htk,es]
    refine ⟨by omega,ae ⟨(out++[lo],c2),by simp only [hag]; exact hc4,hc2',hlo3,by simp only [hag]; exact hinv⟩ (by simp only [hag,←hi]; exact hc3) [(0,10)] (by simp) (by simp) (by simp) (by simp -implicitDefEqProofs [go_sem,←hi]) (by simp -implicitDefEqProofs [go_sem,aL])⟩
 ·have im:¬i<m:=by omega
  have c0:c=0:=by omega
  rw [c0,Nat.mul_zero,Nat.add_zero,List.take_of_length_le (by omega),List.take_of_length_le (by omega),hva,hvb] at h4
  simp -implicitDefEqProofs [go_sem,←hi,em,im,c0]
  refine bT [0] _ (c_ out (by unfold cH; omega)) (by simp -implicitDefEqProofs [go_sem,hi,cW]) (by simp -implicitDefEqProofs [go_sem]) (by simp -implicitDefEqProofs [go_sem,hi]) (by simp -implicitDefEqProofs [go_sem]) ?_
  rw [aK (by omega) h3,h4]
  simp -implicitDefEqProofs [go_sem]
theorem kv (A V:Nat) (ha:cf (am 4294967296 A)) (hb:cf (am 4294967296 V)) (hAV:V≤A):ab Tryz.prog 220 [qA A,qA V] (qA (A-V)):=by
 unfold cf at ha hb
 have hva:=aq (B:=4294967296) (by omega) A
 have hvb:=aq (B:=4294967296) (by omega) V
 have la:=an (B:=4294967296) (by omega) A
 have lb:=an (B:=4294967296) (by omega) V
 have hlen:(am 4294967296 V).length≤(am 4294967296 A).length:=by
  rcases Nat.lt_or_ge (am 4294967296 A).length (am 4294967296 V).length with h|h
  ·exfalso
   have:=dS (B:=4294967296) (by omega) la (n:=V) h
   omega
  ·exact h
 refine Pg Tryz.func220 rfl [.tmp 4] rfl (uL _) ?_
 unfold qA
 generalize am 4294967296 A=a at *
 generalize am 4294967296 V=b at *
 simp -implicitDefEqProofs [go_sem]
 refine ⟨by omega,?_⟩
 refine aj 9 (α:={p:List Nat×Nat // p.1.length≤a.length∧p.2≤1∧bu 4294967296 p.1∧lv 4294967296 p.1+lv 4294967296 (b.take p.1.length)=lv 4294967296 (a.take p.1.length)+4294967296 ^ p.1.length*p.2}) (fun p=>[(0,mA a),(1,mA b),(5,.own 1 0 0 p.1.1.length),(6,.int .u64 p.1.2),(7,.int .i64 p.1.1.length)]) (fun p=>[(0,.live 1 (uA .u32 p.1.1))]) (fun p=>a.length-p.1.1.length) ⟨([],0),by simp [dI]⟩ [] (by simp) (by simp) (by simp) (by simp -implicitDefEqProofs [go_sem]) (by simp -implicitDefEqProofs [go_sem]) fun ⟨⟨out,c⟩,h1,h2,h3,h4⟩=>?_
 simp only at h1 h2 h3 h4
 obtain ⟨i,hi⟩:∃i,i=out.length:=⟨_,rfl⟩
 rw [←hi] at h1 h4
 by_cases hgo:i<a.length
 ·have hx:=la.getD (by omega) i
  have hy:=lb.getD (by omega) i
  have t1:=aA 4294967296 a i
  have t2:=aA 4294967296 b i
  have ga:=aQ .u32 (l:=a) (i:=i) hgo
  have gb:=fun h=>aQ .u32 (l:=b) (i:=i) h
  have zb:=fun h=>rQ (l:=b) (i:=i) h
  obtain ⟨x,hxe⟩:∃x,x=a.getD i 0:=⟨_,rfl⟩
  obtain ⟨y,hye⟩:∃y,y=b.getD i 0:=⟨_,rfl⟩
  rw [←hxe] at hx t1 ga
  rw [←hye] at hy t2 gb zb
  have wx:IntKind.u64.wrap (x:Int)=x:=bE (by omega)
  have wy:IntKind.u64.wrap (y:Int)=y:=bE (by omega)
  obtain ⟨v,hv⟩:∃q,q=c+y:=⟨_,rfl⟩
  have wv:IntKind.u64.wrap ((c:Int)+y)=(v:Nat):=by rw [bE (by omega)]; omega
  obtain ⟨x2,hx2⟩:∃q,q=x+4294967296:=⟨_,rfl⟩
  have wx2:IntKind.u64.wrap ((x:Int)+4294967296)=(x2:Nat):=by rw [bE (by omega)]; omega
  have htk:(uA .u32 out).take i=uA .u32 out:=by rw [hi]; exact cW _ _
  have es:=wS i (by omega)
  obtain ⟨lo,c2,hc2,hlo,hsum,hlow,hhigh⟩:∃lo c2:Nat,c2≤1∧lo<4294967296∧lo+c+y=x+4294967296*c2∧(x<v→c2=1∧IntKind.u32.wrap (IntKind.u64.wrap ((x2:Int)-v))=(lo:Nat))∧(¬x<v→c2=0∧IntKind.u32.wrap (IntKind.u64.wrap ((x:Int)-v))=(lo:Nat)):=by
   by_cases hxv:x<v
   ·refine ⟨x2-v,1,by omega,by omega,by omega,fun _=>⟨rfl,?_⟩,fun h=>absurd hxv h⟩
    rw [bE (by omega),show ((x2:Int)-v)=(x2-v:Nat) by omega,s9,Nat.mod_eq_of_lt (by omega)]
   ·refine ⟨x-v,0,by omega,by omega,by omega,fun h=>absurd h hxv,fun _=>⟨rfl,?_⟩⟩
    rw [bE (by omega),show ((x:Int)-v)=(x-v:Nat) by omega,s9,Nat.mod_eq_of_lt (by omega)]
  have hag:(out++[lo]).length=i+1:=by simp [hi]
  have hlo3:bu 4294967296 (out++[lo]):=bm.2 ⟨h3,by simpa [bu] using hlo⟩
  have hinv:lv 4294967296 (out++[lo])+lv 4294967296 (b.take (i+1))=lv 4294967296 (a.take (i+1))+4294967296 ^ (i+1)*c2:=by
   rw [eR,t1,t2,←hi,Nat.pow_succ]
   have h7:4294967296 ^ i*(lo+c+y)=4294967296 ^ i*(x+4294967296*c2):=by rw [hsum]
   simp only [Nat.mul_add,←Nat.mul_assoc] at h7 h4 ⊢
   omega
  by_cases ib:i<b.length
  ·have gb:=gb ib
   by_cases hxv:x<v
   ·obtain ⟨e1,e2⟩:=hlow hxv
    subst e1
    simp -implicitDefEqProofs [go_sem,←hi,hgo,ib,ga,gb,wx,wy,wv,hxv,wx2,e2,htk,es]
    refine ⟨by omega,ae ⟨(out++[lo],1),by simp only [hag]; omega,hc2,hlo3,by simp only [hag]; exact hinv⟩ (by simp only [hag,←hi]; omega) [(0,10)] (by simp) (by simp) (by simp) (by simp -implicitDefEqProofs [go_sem,←hi]) (by simp -implicitDefEqProofs [go_sem,aL])⟩
   ·obtain ⟨e1,e2⟩:=hhigh hxv
    subst e1
    simp -implicitDefEqProofs [go_sem,←hi,hgo,ib,ga,gb,wx,wy,wv,hxv,e2,htk,es]
    refine ⟨by omega,ae ⟨(out++[lo],0),by simp only [hag]; omega,hc2,hlo3,by simp only [hag]; exact hinv⟩ (by simp only [hag,←hi]; omega) [(0,10)] (by simp) (by simp) (by simp) (by simp -implicitDefEqProofs [go_sem,←hi]) (by simp -implicitDefEqProofs [go_sem,aL])⟩
  ·have hy0:=zb (by omega)
   have hvc:v=c:=by omega
   rw [hvc] at hlow hhigh
   by_cases hxv:x<c
   ·obtain ⟨e1,e2⟩:=hlow hxv
    subst e1
    simp -implicitDefEqProofs [go_sem,←hi,hgo,ib,ga,wx,hxv,wx2,e2,htk,es]
    refine ⟨by omega,ae ⟨(out++[lo],1),by simp only [hag]; omega,hc2,hlo3,by simp only [hag]; exact hinv⟩ (by simp only [hag,←hi]; omega) [(0,10)] (by simp) (by simp) (by simp) (by simp -implicitDefEqProofs [go_sem,←hi]) (by simp -implicitDefEqProofs [go_sem,aL])⟩
   ·obtain ⟨e1,e2⟩:=hhigh hxv
    subst e1
    simp -implicitDefEqProofs [go_sem,←hi,hgo,ib,ga,wx,hxv,e2,htk,es]
    refine ⟨by omega,ae ⟨(out++[lo],0),by simp only [hag]; omega,hc2,hlo3,by simp only [hag]; exact hinv⟩ (by simp only [hag,←hi]; omega) [(0,10)] (by simp) (by simp) (by simp) (by simp -implicitDefEqProofs [go_sem,←hi]) (by simp -implicitDefEqProofs [go_sem,aL])⟩
 ·have e:i=a.length:=by omega
  rw [e,List.take_length,List.take_of_length_le (by omega),hva,hvb] at h4
  have hlo:=cq h3
  rw [←hi,e] at hlo
  have hA:=cq la
  rw [hva] at hA
  have hc0:c=0:=by
   rcases Nat.eq_zero_or_pos c with h6|h6
   ·exact h6
   ·rw [show c=1 by omega] at h4; omega
  rw [hc0,Nat.mul_zero,Nat.add_zero] at h4
  simp -implicitDefEqProofs [go_sem,←hi,hgo]
  refine bT [0] _ (c_ out (by unfold cH; omega)) (by simp -implicitDefEqProofs [go_sem,hi,cW]) (by simp -implicitDefEqProofs [go_sem]) (by simp -implicitDefEqProofs [go_sem,hi]) (by simp -implicitDefEqProofs [go_sem]) ?_
  rw [aK (by omega) h3,show lv 4294967296 out=A-V by omega]
  simp -implicitDefEqProofs [go_sem]
theorem eJ (A V:Nat) (ha:cf (am 4294967296 A)) (hb:cf (am 4294967296 V)):ab Tryz.prog 200 [qA A,qA V] (qA (A*V)):=by
 unfold cf at ha hb
 have hva:=aq (B:=4294967296) (by omega) A
 have hvb:=aq (B:=4294967296) (by omega) V
 have la:=an (B:=4294967296) (by omega) A
 have lb:=an (B:=4294967296) (by omega) V
 refine Pg Tryz.func200 rfl [.tmp 4] rfl (uL _) ?_
 unfold qA
 generalize am 4294967296 A=a at *
 generalize am 4294967296 V=b at *
 obtain ⟨m,hm⟩:∃m,m=a.length+b.length:=⟨_,rfl⟩
 have e0:IntKind.i64.wrap ((a.length:Int)+b.length)=(m:Nat):=by rw [bO (by omega)]; omega
 simp -implicitDefEqProofs [go_sem,e0]
 refine ⟨by omega,?_⟩
 rw [jm]
 refine aj 9 (α:={p:List Nat×Nat // p.1.length=m∧p.2≤a.length∧bu 4294967296 p.1∧lv 4294967296 p.1=lv 4294967296 (a.take p.2)*lv 4294967296 b∧∀j,p.2+b.length≤j→p.1.getD j 0=0}) (fun p=>[(0,mA a),(1,mA b),(5,.own 1 0 0 m),(6,.int .i64 p.1.2)]) (fun p=>[(0,.live 1 (uA .u32 p.1.1))]) (fun p=>a.length-p.1.2) ⟨(List.replicate m 0,0),by simp,by simp,fun x hx=>by rw [(List.mem_replicate.1 hx).2]; decide,by simp [ue],fun j _=>by simp [List.getElem?_replicate]; split<;>rfl⟩ [] (by simp) (by simp) (by simp) (by simp -implicitDefEqProofs [go_sem]) (by simp -implicitDefEqProofs [go_sem]) fun ⟨⟨out,i⟩,h1,h2,h3,h4,h5⟩=>?_
 simp only at h1 h2 h3 h4 h5
 simp -implicitDefEqProofs [go_sem]
 refine ⟨fun h=>?_,fun h=>?_⟩
 ·have hga:=aQ .u32 (l:=a) (i:=i) (by omega)
  have hx:=la.getD (by omega) i
  have t1:=aA 4294967296 a i
  obtain ⟨x,hxx⟩:∃x,x=a.getD i 0:=⟨_,rfl⟩
  rw [←hxx] at hx t1 hga
  refine aj 9 (α:={p:List Nat×Nat×Nat // p.1.length=m∧p.2.1≤b.length∧p.2.2<4294967296∧bu 4294967296 p.1∧lv 4294967296 p.1+4294967296 ^ (i+p.2.1)*p.2.2=lv 4294967296 (a.take i)*lv 4294967296 b+4294967296 ^ i*(x*lv 4294967296 (b.take p.2.1))∧∀j,i+b.length≤j→p.1.getD j 0=0}) (fun p=>[(0,mA a),(1,mA b),(5,.own 1 0 0 m),(6,.int .i64 i),(7,.int .u64 p.1.2.2),(8,.int .i64 p.1.2.1)]) (fun p=>[(0,.live 1 (uA .u32 p.1.1))]) (fun p=>b.length-p.1.2.1) ⟨(out,0,0),h1,by simp,by simp,h3,by simp [h4],h5⟩ [] (by simp) (by simp) (by simp) (by simp -implicitDefEqProofs [go_sem]) (by simp -implicitDefEqProofs [go_sem]) fun ⟨⟨o2,k,c⟩,q1,q2,q3,q4,q5,q6⟩=>?_
  simp only at q1 q2 q3 q4 q5 q6
  simp -implicitDefEqProofs [go_sem]
  refine ⟨fun hk=>?_,fun hk=>?_⟩
  ·have hgb:=aQ .u32 (l:=b) (i:=k) (by omega)
   have hy:=lb.getD (by omega) k
   have t2:=aA 4294967296 b k
   obtain ⟨y,hyy⟩:∃y,y=b.getD k 0:=⟨_,rfl⟩
   rw [←hyy] at hy t2 hgb
   obtain ⟨j,hj⟩:∃j,j=i+k:=⟨_,rfl⟩
   rw [←hj] at q5
   have ej:IntKind.i64.wrap ((i:Int)+k)=(j:Nat):=by rw [bO (by omega)]; omega
   have hjm:j<m:=by omega
   have hjo:j<o2.length:=by omega
   have hgo:=dr .u32 (l:=o2) (i:=j) hjo
   have hw:=q4.getD (by omega) j
   obtain ⟨w,hww⟩:∃w,w=o2.getD j 0:=⟨_,rfl⟩
   rw [←hww] at hgo hw
   have hxy:x*y≤4294967295*4294967295:=Nat.mul_le_mul (by omega) (by omega)
   have wx:IntKind.u64.wrap (x:Int)=x:=bE (by omega)
   have wy:IntKind.u64.wrap (y:Int)=y:=bE (by omega)
   have ww:IntKind.u64.wrap (w:Int)=w:=bE (by omega)
   have e1:IntKind.u64.wrap ((x:Int)*y)=(x*y:Nat):=wG (by omega)
   obtain ⟨xy,hxye⟩:∃q,q=x*y:=⟨_,rfl⟩
   rw [←hxye] at e1 hxy
   have e2:IntKind.u64.wrap ((w:Int)+xy)=(w+xy:Nat):=iQ (by omega)
   obtain ⟨s1,hs1⟩:∃q,q=w+xy:=⟨_,rfl⟩
   rw [←hs1] at e2
   have e3:IntKind.u64.wrap ((s1:Int)+c)=(s1+c:Nat):=iQ (by omega)
   obtain ⟨v,hv⟩:∃q,q=s1+c:=⟨_,rfl⟩
   rw [←hv] at e3
   have e4:=s9 v
   have e5:=xl v
   have hdm:=Nat.mod_add_div v 4294967296
   have hlo:v%4294967296<4294967296:=Nat.mod_lt _ (by omega)
   obtain ⟨lo,hlo2⟩:∃j,j=v%4294967296:=⟨_,rfl⟩
   obtain ⟨c2,hc2⟩:∃j,j=v / 4294967296:=⟨_,rfl⟩
   rw [←hlo2] at e4 hdm hlo
   rw [←hc2] at e5 hdm
   have es:=wS k (by omega)
   have hset:=i_ 4294967296 lo hjo
   rw [←hww] at hset
   simp -implicitDefEqProofs [go_sem,hga,hgb,ej,hgo,wx,wy,ww,e1,e2,e3,e4,e5,es,cT]
   refine ⟨hjm,hjo,h,hk,hjm,hjo,ae ⟨(o2.set j lo,k+1,c2),by simp [q1],Nat.succ_le_of_lt hk,by simp only; omega,q4.set hlo j,?_,fun j' hj'=>by rw [getD_set_ne (by omega)]; exact q6 j' hj'⟩ (by simp only; omega) [] (by simp) (by simp) (by simp) (by simp -implicitDefEqProofs [go_sem]) (by simp -implicitDefEqProofs [go_sem,cT])⟩
   simp only
   rw [←Nat.add_assoc,←hj,t2,Nat.pow_succ]
   have h7:4294967296 ^ j*(lo+4294967296*c2)=4294967296 ^ j*(w+x*y+c):=by rw [hdm,hv,hs1,hxye]
   have h8:4294967296 ^ i*(x*(4294967296 ^ k*y))=4294967296 ^ j*(x*y):=by rw [hj,Nat.pow_add,Nat.mul_left_comm x,←Nat.mul_assoc]
   simp only [Nat.mul_add,←Nat.mul_assoc] at h7 h8 q5 hset ⊢
   omega
  ·have hkk:k=b.length:=by omega
   subst hkk
   obtain ⟨j,hj⟩:∃j,j=i+b.length:=⟨_,rfl⟩
   have ej:IntKind.i64.wrap ((i:Int)+b.length)=(j:Nat):=by rw [bO (by omega)]; omega
   have hjo:j<o2.length:=by omega
   have hjm:j<m:=by omega
   have hgj:=dr .u32 (l:=o2) (i:=j) (by omega)
   have es:=wS i (by omega)
   have hset:=i_ 4294967296 c hjo
   rw [q6 j (by omega)] at hset
   rw [←hj,List.take_length] at q5
   have e4:=s9 c
   rw [Nat.mod_eq_of_lt q3] at e4
   simp -implicitDefEqProofs [go_sem,ej,hgj,es,e4]
   refine ⟨hjm,hjo,ae ⟨(o2.set j c,i+1),by simp [q1],Nat.succ_le_of_lt h,q4.set q3 j,?_,fun j' hj'=>by simp only at hj'; rw [getD_set_ne (by omega)]; exact q6 j' (by omega)⟩ (by simp only; omega) [] (by simp) (by simp) (by simp) (by simp -implicitDefEqProofs [go_sem]) (by simp -implicitDefEqProofs [go_sem,cT])⟩
   simp only
   rw [t1,Nat.add_mul,Nat.mul_assoc]
   omega
 ·have hi:i=a.length:=by omega
  rw [hi,List.take_length,hva,hvb] at h4
  refine bT [0] _ (c_ out (by unfold cH; omega)) (by simp -implicitDefEqProofs [go_sem,←h1,cW]) (by simp -implicitDefEqProofs [go_sem]) (by simp -implicitDefEqProofs [go_sem,h1]) (by simp -implicitDefEqProofs [go_sem]) ?_
  rw [aK (by omega) h3,h4]
  simp -implicitDefEqProofs [go_sem]
theorem F8 {r x:Nat} (hr:r<4294967296) (hx:x<4294967296):FT .u64 (IntKind.u64.wrap ((r:Int)*4294967296)) (x:Int)=(r*4294967296+x:Nat):=by
 have e:IntKind.u64.wrap ((r:Int)*4294967296)=(r*4294967296:Nat):=by rw [bE (by omega)]; omega
 rw [e,Mj (by omega) (by omega)]
 have h:=Nat.two_pow_add_eq_or_of_lt (i:=32) (b:=x) (by omega) r
 rw [show (2:Nat) ^ 32=4294967296 by rfl,Nat.mul_comm] at h
 rw [←h]
theorem xj (A y:Nat) (ha:cf (am 4294967296 A)) (hy:0<y) (hyB:y<4294967296):ab Tryz.prog 218 [qA A,.int .u32 y] (.agg [qA (A / y),qA (A%y)]):=by
 unfold cf at ha
 have hva:=aq (B:=4294967296) (by omega) A
 have la:=an (B:=4294967296) (by omega) A
 have hof:=jw (A%y) (by have:=Nat.mod_lt A hy; omega)
 refine Pg Tryz.func218 rfl [.cell 4 238] rfl (by simp -implicitDefEqProofs [go_sem,qA]) ?_
 unfold qA at *
 generalize am 4294967296 A=a at *
 simp -implicitDefEqProofs [go_sem]
 refine ⟨by omega,?_⟩
 rw [jm,bO (by omega)]
 obtain ⟨QQ,hQQ⟩:∃q,q=A / y:=⟨_,rfl⟩
 obtain ⟨RR,hRR⟩:∃q,q=A%y:=⟨_,rfl⟩
 rw [←hRR] at hof
 rw [←hQQ,←hRR]
 refine aj 9 (α:={p:List Nat×Nat×Nat // p.1.length=a.length∧bu 4294967296 p.1∧p.2.1<y∧p.2.2≤a.length∧lv 4294967296 (a.drop p.2.2)=y*lv 4294967296 (p.1.drop p.2.2)+p.2.1}) (fun p=>[(0,mA a),(1,.int .u32 y),(4,.ptr 0 0 0),(5,.own 1 1 0 a.length),(6,.int .u64 p.1.2.1),(7,.int .i64 ((p.1.2.2:Int)-1))]) (fun p=>[(0,.live 2 [.agg [.sl 0 true [],.sl 0 true []]]),(1,.live 1 (uA .u32 p.1.1))]) (fun p=>p.1.2.2) ⟨(List.replicate a.length 0,0,a.length),by simp,fun x hx=>by rw [(List.mem_replicate.1 hx).2]; decide,hy,by simp,by simp⟩ [] (by simp) (fun _ _ _ _ h=>h) (by omega) (by simp -implicitDefEqProofs [go_sem]) (by simp -implicitDefEqProofs [go_sem]) fun ⟨⟨out,m,i⟩,q1,q2,q3,q4,q5⟩=>?_
 simp only at q1 q2 q3 q4 q5
 simp -implicitDefEqProofs [go_sem]
 refine ⟨fun h0=>?_,fun h0=>?_⟩
 ·obtain ⟨k,hik⟩:∃k,i=k+1:=⟨i-1,by omega⟩
  subst hik
  have g1:=aQ .u32 (l:=a) (i:=k) (by omega)
  have hx:=la.getD (by omega) k
  have hko:k<out.length:=by omega
  have g2:=dr .u32 (l:=out) (i:=k) hko
  have hd:=iw 4294967296 (l:=a) (k:=k) (by omega)
  obtain ⟨x,hxx⟩:∃x,x=a.getD k 0:=⟨_,rfl⟩
  rw [←hxx] at hx g1 hd
  have hdm:=Nat.div_add_mod (m*4294967296+x) y
  have hml:=Nat.mod_lt (m*4294967296+x) hy
  have hqB:(m*4294967296+x) / y<4294967296:=by
   rw [Nat.div_lt_iff_lt_mul hy]
   have:(m+1)*4294967296≤y*4294967296:=Nat.mul_le_mul_right _ q3
   rw [Nat.mul_comm 4294967296]
   omega
  have e0:=F8 (r:=m) (x:=x) (by omega) hx
  have wx:IntKind.u64.wrap (x:Int)=x:=bE (by omega)
  have wy:IntKind.u64.wrap (y:Int)=y:=bE (by omega)
  have ei:IntKind.i64.wrap (((k+1:Nat):Int)-1)=(k:Nat):=by rw [bO (by omega)]; omega
  have ek:((k+1:Nat):Int)-1=(k:Nat):=by omega
  have ek2:IntKind.i64.wrap ((k:Int)-1)=(k:Int)-1:=bO (by omega)
  simp -implicitDefEqProofs [go_sem,ek,g1]
  refine ⟨by omega,?_⟩
  obtain ⟨v,hv⟩:∃v,v=m*4294967296+x:=⟨_,rfl⟩
  rw [←hv] at e0 hdm hml hqB
  have e1:((v:Int).tdiv (y:Int))=(v / y:Nat):=by rw [Int.tdiv_eq_ediv_of_nonneg (by omega)]; rfl
  have e2:((v:Int).tmod (y:Int))=(v%y:Nat):=by rw [Int.tmod_eq_emod_of_nonneg (by omega)]; rfl
  obtain ⟨q,hq⟩:∃q,q=v / y:=⟨_,rfl⟩
  obtain ⟨m2,hm2⟩:∃q,q=v%y:=⟨_,rfl⟩
  rw [←hq] at e1 hdm hqB
  rw [←hm2] at e2 hdm hml
  have e4:IntKind.u64.wrap (q:Int)=q:=bE (by omega)
  have e3:=s9 q
  rw [Nat.mod_eq_of_lt hqB] at e3
  have hy0:¬y=0:=by omega
  simp -implicitDefEqProofs [go_sem,ek,ek2,g1,g2,wx,wy,e0,e1,e2,e3,e4,hy0,g2,cT]
  refine ⟨by omega,hko,?_⟩
  refine ae ⟨(out.set k q,m2,k),by simp [q1],q2.set hqB k,hml,by simp only; omega,?_⟩ (by simp only; omega) [] (by simp) (fun _ _ _ _ h=>h) (by omega) (by simp -implicitDefEqProofs [go_sem]) (by simp -implicitDefEqProofs [go_sem,cT])
  simp only
  have e9:(out.set k q).drop k=q::out.drop (k+1):=by
   rw [List.drop_eq_getElem_cons (by simpa using hko),List.drop_set_of_lt (by omega)]
   simp
  rw [e9,bH,hd,q5]
  have h9:4294967296*(y*lv 4294967296 (out.drop (k+1))+m)=y*(4294967296*lv 4294967296 (out.drop (k+1)))+m*4294967296:=by
   rw [Nat.mul_add,Nat.mul_left_comm,Nat.mul_comm m]
  rw [h9,Nat.mul_add y]
  omega
 ·have hi:i=0:=by omega
  subst hi
  simp only [List.drop_zero] at q5
  have hQ:lv 4294967296 out=QQ:=by rw [hQQ,←hva,q5,Nat.mul_add_div hy,Nat.div_eq_of_lt q3,Nat.add_zero]
  have hR:m=RR:=by rw [hRR,←hva,q5,Nat.mul_add_mod,Nat.mod_eq_of_lt q3]
  refine bT [1] _ (c_ out (by unfold cH; omega)) (by simp -implicitDefEqProofs [go_sem,←q1,cW]) (by simp -implicitDefEqProofs [go_sem]) (by simp -implicitDefEqProofs [go_sem,q1]) (by simp -implicitDefEqProofs [go_sem]) ?_
  rw [aK (by omega) q2,hQ,hR]
  simp -implicitDefEqProofs [go_sem]
  refine ag hof ?_
  simp -implicitDefEqProofs [go_sem,aS]
theorem zY {R V p x bt:Nat} {r bl:List Nat} (hr:lv 4294967296 r=R) (hv:lv 4294967296 (bl++[bt])=V) (lb:bu 4294967296 bl) (hp:p=bl.length) (hpr:p≤r.length) (hx:x=lv 4294967296 (r.drop p)):x / (bt+1)*V≤R:=by
 have h1:R=lv 4294967296 (r.take p)+4294967296 ^ p*x:=by
  rw [hx,←hr]
  conv=>lhs; rw [←List.take_append_drop p r]
  rw [bG,List.length_take,Nat.min_eq_left hpr]
 have h2:V≤4294967296 ^ p*(bt+1):=by
  have:=cq (B:=4294967296) lb
  rw [←hp] at this
  rw [←hv,bG,←hp,bH,dt,Nat.mul_zero,Nat.add_zero,Nat.mul_add,Nat.mul_one]
  omega
 have h3:x / (bt+1)*(bt+1)≤x:=Nat.div_mul_le_self _ _
 calc x / (bt+1)*V≤x / (bt+1)*(4294967296 ^ p*(bt+1)):=Nat.mul_le_mul_left _ h2
  _=4294967296 ^ p*(x / (bt+1)*(bt+1)):=by rw [Nat.mul_left_comm]
  _≤4294967296 ^ p*x:=Nat.mul_le_mul_left _ h3
  _≤R:=by omega
theorem DX {x y:Int}:bI x y≤0↔x≤y:=by
 unfold bI; split
 ·constructor<;>omega
 ·split<;>constructor<;>omega
theorem C5 {A V k:Nat} (h:V<4294967296 ^ k):(am 4294967296 (A*V)).length≤(am 4294967296 A).length+k:=by
 refine cj (by omega) ?_
 rw [Nat.pow_add]
 have h1:=cq (an (B:=4294967296) (by omega) A)
 rw [aq (by omega)] at h1
 exact Nat.mul_lt_mul'' h1 h
theorem rU (R V:Nat) (hr:cf (am 4294967296 R)) (hb:cf (am 4294967296 V)) (hVR:V≤R) (h0:0<V) (hlt:R<V*4294967296):ab Tryz.prog 219 [qA R,qA V] (.int .u32 (R / V:Nat)):=by
 have hmul:=fun h (hh:h<18446744073709551616)=>eJ V h hb (by unfold cf; have:=cj (B:=4294967296) (n:=h) (k:=2) (by omega) hh; omega)
 have hcmp:=fun h (hh:h<18446744073709551616)=>iq (V*h) R (by unfold cf at hb; unfold cH; have:=C5 (A:=V) (V:=h) (k:=2) hh; omega) hr.x
 have hof:=fun h (hh:h<18446744073709551616)=>jw h hh
 unfold cf at hr hb
 have hvr:=aq (B:=4294967296) (by omega) R
 have hvb:=aq (B:=4294967296) (by omega) V
 have lr:=an (B:=4294967296) (by omega) R
 have lb:=an (B:=4294967296) (by omega) V
 obtain ⟨bl,bt,hbe,hbt⟩:=fD (B:=4294967296) (n:=V) (by omega) (Nat.pos_iff_ne_zero.1 h0)
 obtain ⟨n,hn⟩:∃n,n=(am 4294967296 V).length:=⟨_,rfl⟩
 obtain ⟨m,hm⟩:∃m,m=(am 4294967296 R).length:=⟨_,rfl⟩
 have hnp:n=bl.length+1:=by rw [hn,hbe]; simp
 have hmn:n≤m:=by
  rw [hn,hm]
  rcases Nat.lt_or_ge (am 4294967296 R).length (am 4294967296 V).length with h|h
  ·have:=dS (B:=4294967296) (by omega) lr h; omega
  ·exact h
 have hmn1:m≤n+1:=by
  rw [hm]
  refine cj (by omega) ?_
  have h1:=cq lb
  rw [hvb,←hn] at h1
  have h2:V*4294967296<4294967296 ^ n*4294967296:=Nat.mul_lt_mul_of_pos_right h1 (by omega)
  rw [Nat.pow_succ]; exact Nat.lt_trans hlt h2
 have lbl:bu 4294967296 bl:=by rw [hbe] at lb; exact (bm.1 lb).1
 have hbtB:bt<4294967296:=by
  have h9:bt∈am 4294967296 V:=by rw [hbe]; exact List.mem_append_right _ (List.mem_singleton_self _)
  exact lb bt h9
 have hgb:=aQ .u32 (l:=am 4294967296 V) (i:=bl.length) (by omega)
 rw [show (am 4294967296 V).getD bl.length 0=bt by rw [hbe,List.getD_eq_getElem?_getD,List.getElem?_append_right (Nat.le_refl _),Nat.sub_self]; rfl] at hgb
 have hvbl:lv 4294967296 (bl++[bt])=V:=by rw [←hbe]; exact hvb
 refine Pg Tryz.func219 rfl [.tmp 4] rfl (by simp -implicitDefEqProofs [go_sem]) ?_
 unfold qA at *
 generalize am 4294967296 R=r at *
 generalize am 4294967296 V=b at *
 obtain ⟨p,hp⟩:∃p,p=bl.length:=⟨_,rfl⟩
 obtain ⟨mm,hmm⟩:∃q,m=q+1:=⟨m-1,by omega⟩
 have hg1:=aQ .u32 (l:=r) (i:=mm) (by omega)
 have hx1:=lr.getD (by omega) mm
 obtain ⟨r1,hr1⟩:∃x,x=r.getD mm 0:=⟨_,rfl⟩
 rw [←hr1] at hg1 hx1
 have e1:IntKind.i64.wrap ((r.length:Int)-1)=(mm:Nat):=by rw [bO (by omega)]; omega
 have e2:IntKind.u64.wrap (r1:Int)=r1:=bE (by omega)
 have e3:IntKind.i64.wrap ((b.length:Int)-1)=(p:Nat):=by rw [bO (by omega)]; omega
 rw [←hp] at hgb
 have e4:IntKind.u64.wrap (bt:Int)=bt:=bE (by omega)
 obtain ⟨x,hx⟩:∃x,x=lv 4294967296 (r.drop p):=⟨_,rfl⟩
 have hd:=zY (p:=p) (x:=x) hvr hvbl lbl hp (by omega) hx
 have hxB:x<18446744073709551616:=by
  have h1:=cq (B:=4294967296) (lr.drop p)
  have h2:4294967296 ^ (r.drop p).length≤4294967296 ^ 2:=Nat.pow_le_pow_right (by omega) (by rw [List.length_drop]; omega)
  rw [←hx] at h1
  omega
 obtain ⟨bt1,hbt1⟩:∃q,q=bt+1:=⟨_,rfl⟩
 obtain ⟨d,hdd⟩:∃q,q=x / bt1:=⟨_,rfl⟩
 have e8:IntKind.u64.wrap ((bt:Int)+1)=(bt1:Nat):=by rw [bE (by omega)]; omega
 have e9:¬bt1=0:=by omega
 have e10:(x:Int).tdiv (bt1:Int)=(d:Nat):=by rw [Int.tdiv_eq_ediv_of_nonneg (by omega),hdd]; rfl
 have e10':(x:Int) / (bt1:Int)=(d:Nat):=by rw [hdd]; rfl
 have e11:IntKind.u64.wrap (d:Int)=d:=bE (by
  have:d≤x:=by rw [hdd]; exact Nat.div_le_self _ _
  omega)
 rw [←hbt1,←hdd] at hd
 rcases Nat.lt_or_ge b.length r.length with h|h
 case' inl =>
  have hg2:=aQ .u32 (l:=r) (i:=p) (by omega)
  have hx2:=lr.getD (by omega) p
  have d1:=iw 4294967296 (l:=r) (k:=p) (by omega)
  have d2:=iw 4294967296 (l:=r) (k:=p+1) (by omega)
  rw [show r.drop (p+1+1)=[] from List.drop_eq_nil_of_le (by omega),dt] at d2
  rw [d2,←hx,show p+1=mm by omega,←hr1] at d1
  obtain ⟨r2,hr2⟩:∃x,x=r.getD p 0:=⟨_,rfl⟩
  rw [←hr2] at hg2 hx2 d1
  have e5:IntKind.i64.wrap ((r.length:Int)-2)=(p:Nat):=by rw [bO (by omega)]; omega
  have e6:IntKind.u64.wrap (r2:Int)=r2:=bE (by omega)
  have e7:=F8 hx1 hx2
  rw [show r1*4294967296+r2=x by omega] at e7
  clear d1 d2 hx2 hx1
  simp -implicitDefEqProofs [go_sem,e1,hg1,e2,h,e5,hg2,e6,e7,e3,e4,hgb,e8,e9,e10,e10',e11]
  refine ⟨by omega,by omega,by omega,?_⟩
 case' inr =>
  have hxr:x=r1:=by
   have d1:=iw 4294967296 (l:=r) (k:=p) (by omega)
   rw [show r.drop (p+1)=[] from List.drop_eq_nil_of_le (by omega),dt,←hx,show p=mm by omega,←hr1] at d1
   exact d1
  subst hxr
  simp -implicitDefEqProofs [go_sem,e1,hg1,e2,Nat.not_lt.2 h,e3,e4,hgb,e8,e9,e10,e10',e11]
  refine ⟨by omega,by omega,?_⟩
 all_goals
  obtain ⟨Q,hQ⟩:∃q,q=R / V:=⟨_,rfl⟩
  rw [←Nat.le_div_iff_mul_le h0,←hQ] at hd
  have hQB:Q<4294967296:=by rw [hQ,Nat.div_lt_iff_lt_mul h0,Nat.mul_comm]; exact hlt
  have hle:∀h,bI ((V*h:Nat):Int) (R:Int)≤0↔h≤Q:=fun h=>by
   rw [DX,hQ,Nat.le_div_iff_mul_le h0,Nat.mul_comm h V]; omega
  rw [show ((R:Int) / (V:Int))=(Q:Nat) by rw [hQ]; rfl]
  refine aj 9 (α:={p:Nat×Nat×Nat // p.1≤Q∧p.1≤p.2.1∧(p.2.1=p.1→p.2.1=d)∧1≤p.2.2∧p.2.2≤p.2.1+1∧p.2.1≤8589934592}) (fun p=>[(0,mA r),(1,mA b),(8,.int .u64 p.1.1),(9,.int .u64 p.1.2.1),(10,.int .u64 p.1.2.2)]) (fun p=>[]) (fun p=>8589934592-p.1.2.1) ⟨(d,d,1),hd,by simp,fun _=>rfl,by simp,by simp only; omega,by simp only; omega⟩ [] (by simp) (by simp) (by simp) (by simp -implicitDefEqProofs [go_sem]) (by simp -implicitDefEqProofs [go_sem]) fun ⟨⟨lo,hi,st⟩,q1,q2,q3,q4,q5,q6⟩=>?_
  simp only at q1 q2 q3 q4 q5 q6
  simp -implicitDefEqProofs [go_sem]
  refine ag (hof hi (by omega)) ?_
  simp -implicitDefEqProofs [go_sem]
  refine ag (hmul hi (by omega)) ?_
  have hc1:=hcmp hi (by omega)
  have hc2:=hle hi
  generalize V*hi=vh at *
  obtain ⟨c,hc⟩:∃c,c=bI (vh:Int) (R:Int):=⟨_,rfl⟩
  rw [←hc] at hc1 hc2
  simp -implicitDefEqProofs [go_sem]
  refine ag hc1 ?_
  rcases Nat.lt_or_ge Q hi with hq|hq
  case' inr =>
   have hc3:c≤0:=by rw [hc2]; exact hq
   have hc4:(hi:Int)<4294967296:=by omega
   have w1:IntKind.u64.wrap ((hi:Int)+st)=(hi+st:Nat):=iQ (by omega)
   have w2:IntKind.u64.wrap ((st:Int)*2)=(st*2:Nat):=by rw [bE (by omega)]; omega
   obtain ⟨h2,hh2⟩:∃h,h=hi+st:=⟨_,rfl⟩
   obtain ⟨s2,hs2⟩:∃h,h=st*2:=⟨_,rfl⟩
   rw [←hh2] at w1
   rw [←hs2] at w2
   simp -implicitDefEqProofs [go_sem,hc3,hc4,w1,w2]
   exact ae ⟨(hi,h2,s2),hq,by simp only; omega,by simp only; omega,by simp only; omega,by simp only; omega,by simp only; omega⟩ (by simp only; omega) [] (by simp) (by simp) (by simp) (by simp -implicitDefEqProofs [go_sem]) (by simp -implicitDefEqProofs [go_sem])
  case' inl =>
   have hc3:¬c≤0:=by rw [hc2]; omega
   obtain ⟨h3,hh3⟩:∃h,h=min hi 4294967296:=⟨_,rfl⟩
   have hm1:(if 4294967296<(hi:Int) then 4294967296 else (hi:Int))=(h3:Nat):=by split<;>omega
   simp -implicitDefEqProofs [go_sem,hc3,hm1]
   clear hc1 hc2 hc hm1
   refine aj 9 (α:={p:Nat×Nat // p.1≤Q∧Q<p.2∧p.2≤4294967296}) (fun p=>[(0,mA r),(1,mA b),(8,.int .u64 p.1.1),(9,.int .u64 p.1.2)]) (fun p=>[]) (fun p=>p.1.2-p.1.1) ⟨(lo,h3),q1,by simp only; omega,by simp only; omega⟩ [] (by simp) (by simp) (by simp) (by simp -implicitDefEqProofs [go_sem]) (by simp -implicitDefEqProofs [go_sem]) fun ⟨⟨lo,hi⟩,q1,q2,q3⟩=>?_
   simp only at q1 q2 q3
   have w1:IntKind.u64.wrap ((hi:Int)-lo)=(hi-lo:Nat):=by rw [bE (by omega)]; omega
   obtain ⟨df,hdf⟩:∃h,h=hi-lo:=⟨_,rfl⟩
   rw [←hdf] at w1
   have w2:IntKind.u64.wrap ((df:Int) / 2)=(df / 2:Nat):=by rw [bE (by omega)]; omega
   obtain ⟨d2,hd2⟩:∃h,h=df / 2:=⟨_,rfl⟩
   rw [←hd2] at w2
   have w3:IntKind.u64.wrap ((lo:Int)+d2)=(lo+d2:Nat):=iQ (by omega)
   obtain ⟨md,hmd⟩:∃h,h=lo+d2:=⟨_,rfl⟩
   rw [←hmd] at w3
   simp -implicitDefEqProofs [go_sem,w1]
   refine ⟨fun h5=>?_,fun h5=>?_⟩
   case' refine_1 =>
    simp -implicitDefEqProofs [go_sem,w1,w2,w3]
    refine ag (hof md (by omega)) ?_
    simp -implicitDefEqProofs [go_sem]
    refine ag (hmul md (by omega)) ?_
    have hc1:=hcmp md (by omega)
    have hc2:=hle md
    generalize V*md=vh at *
    obtain ⟨c,hc⟩:∃c,c=bI (vh:Int) (R:Int):=⟨_,rfl⟩
    rw [←hc] at hc1 hc2
    simp -implicitDefEqProofs [go_sem]
    refine ag hc1 ?_
    simp -implicitDefEqProofs [go_sem]
    refine ⟨fun h6=>?_,fun h6=>?_⟩
    ·exact ae ⟨(md,hi),hc2.1 h6,q2,q3⟩ (by simp only; omega) [] (by simp) (by simp) (by simp) (by simp -implicitDefEqProofs [go_sem]) (by simp -implicitDefEqProofs [go_sem])
    ·have h7:¬md≤Q:=fun h8=>by have:=hc2.2 h8; omega
     exact ae ⟨(lo,md),q1,by simp only; omega,by simp only; omega⟩ (by simp only; omega) [] (by simp) (by simp) (by simp) (by simp -implicitDefEqProofs [go_sem]) (by simp -implicitDefEqProofs [go_sem])
   case' refine_2 =>
    have hlo:lo=Q:=by omega
    subst hlo
    have e20:=s9 lo
    rw [Nat.mod_eq_of_lt hQB] at e20
    simp -implicitDefEqProofs [go_sem,e20]
theorem Kv {ne:Nat} {t t1:Nat→AV} {f:Nat→BS} {n:Nat} {s0:St} (hw:∀k,Wk (t k) (t1 k)) (h:le ne ⟨t1,f,n⟩ s0):le ne ⟨t,f,n⟩ s0:=by
 rintro c0 N a w ⟨c,rfl,hk,hfr,ht,hN,hd,hs,h0,hne⟩
 exact h c0 N a _ ⟨c,rfl,hk,hfr,fun k=>(hw k).1 c _ (ht k),hN,hd,hs,h0,hne⟩
theorem HU {t:Nat→AV} {i:Nat} {v:AV} (h:Wk (t i) v):∀k,Wk (t k) (ar t i v k):=fun k=>by
 unfold ar; split
 ·rename_i e; subst e; exact h
 ·exact Wk.refl _
theorem Cd {P:Program} {z:Bool} {ne:Nat} {Q:AEx→St→Prop} {k:List Itm} {t:Nat→AV} {f:Nat→BS} {n:Nat} {c:Code} {α:Type} (i:Nat) (v:AV) (hw:Wk (t i) v) (n1:Nat) (tl:α→List (Nat×AV)) (hl:α→List (Nat×BS)) (m:α→Nat) (x0:α) (rl:List (Nat×Nat)) (hrl:∀p∈rl,ne≤p.1) (hri:∀p∈hl x0,∀q∈hl x0,nm rl p.1=nm rl q.1→p.1=q.1) (hne:ne≤n1) (ht:∀p∈tl x0,ar t i v p.1=ren (nm rl) p.2∧clo n1 p.2) (hh:∀p∈hl x0,p.1<n1∧f (nm rl p.1)=gu (nm rl) p.2∧dJ ne n1 p)
 (h:∀x,go P z ne Q (.code c :: .lp α (fun y=>xr n1 (tl y) (hl y)) m x::k) (tm (tl x)) (hp n1 (hl x)) n1):go P z ne Q (.code (.loop c)::k) t f n :=
 kP (fun y=>xr n1 (tl y) (hl y)) m x0 (Kv (HU hw) (dz rl hrl hri hne ht hh)) h
theorem eI {B x y:Nat} (hB:2≤B) (h:x≤y):(am B x).length≤(am B y).length:=by
 refine cj hB ?_
 have h1:=cq (an (B:=B) (by omega) y)
 rw [aq (by omega)] at h1
 omega
theorem wC (B:Nat) (hB:B≠0) (l:List Nat) (k:Nat):lv B (l.drop k)≤lv B l:=by
 rcases Nat.lt_or_ge k l.length with h|h
 ·have h1:lv B l=lv B (l.take k)+B ^ k*lv B (l.drop k):=by
   conv=>lhs; rw [←List.take_append_drop k l]
   rw [bG,List.length_take,Nat.min_eq_left (by omega)]
  have h2:1*lv B (l.drop k)≤B ^ k*lv B (l.drop k):=Nat.mul_le_mul_right _ (Nat.pow_pos (by omega))
  omega
 ·rw [List.drop_eq_nil_of_le h,dt]; exact Nat.zero_le _
theorem gt (A V:Nat) (ha:cf (am 4294967296 A)) (hb:cf (am 4294967296 V)) (h0:0<V):ab Tryz.prog 155 [qA A,qA V] (.agg [qA (A / V),qA (A%V)]):=by
 have hcmp:=iq A V ha.x hb.x
 by_cases hlt:A<V
 ·have hc:bI A V<0:=by rw [dg (by omega)]; omega
  rw [Nat.div_eq_of_lt hlt,Nat.mod_eq_of_lt hlt]
  refine (ab.of_go (r := .agg [.sl 0 true [],qA A]) jd Tryz.func155 rfl (rs:=[.cell 4 238]) rfl (by kernel_rfl) (by simp -implicitDefEqProofs [go_sem,qA]) ?_).weaken (Wk.agg (.cons (by unfold qA; rw [aP]; exact Wk.nil 0 1 true) (xC.refl _)))
  unfold qA at *
  simp -implicitDefEqProofs [go_sem]
  refine ag hcmp ?_
  simp -implicitDefEqProofs [go_sem,hc,aS]
 ·have hVA:V≤A:=by omega
  have hc:¬bI A V<0:=by
   rcases Nat.lt_or_ge V A with h|h
   ·rw [cJ (by omega)]; omega
   ·rw [show A=V by omega,eQ]; omega
  have hva:=aq (B:=4294967296) (by omega) A
  have la:=an (B:=4294967296) (by omega) A
  obtain ⟨QQ,hQQ⟩:∃q,q=A / V:=⟨_,rfl⟩
  obtain ⟨RR,hRR⟩:∃q,q=A%V:=⟨_,rfl⟩
  by_cases h1:V<4294967296
  ·have hsh:=xj A V ha h0 h1
   have hy1:=dK (B:=4294967296) (by omega) (Nat.pos_iff_ne_zero.1 h0) h1
   refine Pg Tryz.func155 rfl [.cell 4 238] rfl (by simp -implicitDefEqProofs [go_sem,qA]) ?_
   rw [←hQQ,←hRR] at hsh ⊢
   have hva2:(am 4294967296 V).length=1:=by rw [hy1]; rfl
   have hg:=aQ .u32 (l:=am 4294967296 V) (i:=0) (by omega)
   rw [show (am 4294967296 V).getD 0 0=V by rw [hy1]; rfl] at hg
   unfold qA at *
   generalize am 4294967296 V=b at *
   simp only [Int.natCast_zero,Int.ofNat_zero] at hg
   simp -implicitDefEqProofs [go_sem]
   refine ag hcmp ?_
   simp -implicitDefEqProofs [go_sem,hc,hva2,hg]
   refine ag hsh ?_
   simp -implicitDefEqProofs [go_sem,aS]
  ·have hb2:2≤(am 4294967296 V).length:=by
    rcases Nat.lt_or_ge (am 4294967296 V).length 2 with h|h
    ·exfalso
     have h2:=cq (an (B:=4294967296) (by omega) V)
     rw [aq (by omega)] at h2
     have h3:4294967296 ^ (am 4294967296 V).length≤4294967296 ^ 1:=Nat.pow_le_pow_right (by omega) (by omega)
     omega
    ·exact h
   have hcm:∀x,x≤A→ab Tryz.prog 217 [qA x,qA V] (.int .i64 (bI x V)):=fun x hx=>iq x V (cf.x (Nat.lt_of_le_of_lt (eI (by omega) hx) ha)) hb.x
   have hgs:∀x,x≤A→V≤x→x<V*4294967296→ab Tryz.prog 219 [qA x,qA V] (.int .u32 (x / V:Nat)):=fun x hx hv hl=>rU x V (Nat.lt_of_le_of_lt (eI (by omega) hx) ha) hb hv h0 hl
   have hml:∀d,d<4294967296→ab Tryz.prog 200 [qA V,qA d] (qA (V*d)):=fun d hd=>eJ V d hb (by unfold cf; have:=cj (B:=4294967296) (n:=d) (k:=1) (by omega) (by omega); omega)
   have hsb:∀x y,x≤A→y≤x→ab Tryz.prog 220 [qA x,qA y] (qA (x-y)):=fun x y hx hy=>kv x y (Nat.lt_of_le_of_lt (eI (by omega) hx) ha) (Nat.lt_of_le_of_lt (eI (by omega) (Nat.le_trans hy hx)) ha) hy
   refine Pg Tryz.func155 rfl [.cell 4 238] rfl (by simp -implicitDefEqProofs [go_sem,qA]) ?_
   rw [←hQQ,←hRR]
   unfold cf at ha
   unfold qA at *
   generalize am 4294967296 A=a at *
   generalize hbe:am 4294967296 V=b at *
   have hbl:¬(b.length:Int)=1:=by omega
   simp -implicitDefEqProofs [go_sem]
   refine ag hcmp ?_
   simp -implicitDefEqProofs [go_sem,hc,hbl]
   refine ⟨by omega,?_⟩
   rw [jm,bO (by omega)]
   refine Cd 6 (mA (am 4294967296 0)) (by rw [aP]; exact Wk.nil 0 1 true) 9 (α:={p:List Nat×Nat×Nat // p.1.length=a.length∧bu 4294967296 p.1∧p.2.1<V∧p.2.2≤a.length∧lv 4294967296 (a.drop p.2.2)=V*lv 4294967296 (p.1.drop p.2.2)+p.2.1∧∀j,j<p.2.2→p.1.getD j 0=0}) (fun p=>[(0,mA a),(1,mA b),(4,.ptr 0 0 0),(5,.own 1 1 0 a.length),(6,mA (am 4294967296 p.1.2.1)),(7,.int .i64 ((p.1.2.2:Int)-1))]) (fun p=>[(0,.live 2 [.agg [.sl 0 true [],.sl 0 true []]]),(1,.live 1 (uA .u32 p.1.1))]) (fun p=>p.1.2.2) ⟨(List.replicate a.length 0,0,a.length),by simp,fun x hx=>by rw [(List.mem_replicate.1 hx).2]; decide,h0,by simp,by simp,fun j _=>by simp [List.getElem?_replicate]; split<;>rfl⟩ [] (by simp) (fun _ _ _ _ h=>h) (by omega) (by simp -implicitDefEqProofs [go_sem]) (by simp -implicitDefEqProofs [go_sem]) fun ⟨⟨out,m,i⟩,q1,q2,q3,q4,q5,q6⟩=>?_
   simp only at q1 q2 q3 q4 q5 q6
   simp -implicitDefEqProofs [go_sem]
   refine ⟨fun hi0=>?_,fun hi0=>?_⟩
   ·obtain ⟨k,hik⟩:∃k,i=k+1:=⟨i-1,by omega⟩
    subst hik
    have ek:((k+1:Nat):Int)-1=(k:Nat):=by omega
    have g1:=aQ .u32 (l:=a) (i:=k) (by omega)
    have hx:=la.getD (by omega) k
    have hko:k<out.length:=by omega
    have g2:=dr .u32 (l:=out) (i:=k) hko
    have hd:=iw 4294967296 (l:=a) (k:=k) (by omega)
    obtain ⟨x,hxx⟩:∃x,x=a.getD k 0:=⟨_,rfl⟩
    rw [←hxx] at hx g1 hd
    simp -implicitDefEqProofs [go_sem,ek,g1]
    refine ⟨by omega,?_⟩
    obtain ⟨r1,hr1⟩:∃r,r=x+4294967296*m:=⟨_,rfl⟩
    have hmV:(am 4294967296 m).length≤b.length:=by rw [←hbe]; exact eI (by omega) (by omega)
    unfold cf at hb
    have lxm:bu 4294967296 (x::am 4294967296 m):=fun z hz=>by
     rcases List.mem_cons.1 hz with e|e
     ·subst e; exact hx
     ·exact an (by omega) m z e
    have htl:=aK (B:=4294967296) (by omega) lxm
    rw [bH,aq (by omega),←hr1] at htl
    have hr2:lv 4294967296 (a.drop k)=V*(4294967296*lv 4294967296 (out.drop (k+1)))+r1:=by
     rw [hd,q5,hr1,Nat.mul_add,Nat.mul_left_comm]; omega
    have hrA:r1≤A:=by
     have:=wC 4294967296 (by omega) a k
     omega
    have hrV:r1<V*4294967296:=by
     have:(m+1)*4294967296≤V*4294967296:=Nat.mul_le_mul_right _ q3
     omega
    refine ⟨by omega,bT [10] _ (c_ (x::am 4294967296 m) (by unfold cH; rw [List.length_cons]; omega)) (by simp -implicitDefEqProofs [go_sem]; rw [List.take_of_length_le (by simp; omega)]) (by simp -implicitDefEqProofs [go_sem]) (by simp -implicitDefEqProofs [go_sem]; omega) (by simp -implicitDefEqProofs [go_sem]) ?_⟩
    rw [htl]
    simp -implicitDefEqProofs [go_sem]
    refine ag (hcm r1 hrA) ?_
    have ek2:IntKind.i64.wrap ((k:Int)-1)=(k:Int)-1:=bO (by omega)
    have hok:=iw 4294967296 hko
    rcases Nat.lt_or_ge r1 V with h9|h9
    ·have hc9:bI r1 V<0:=by rw [dg (by omega)]; omega
     simp -implicitDefEqProofs [go_sem,hc9,ek2]
     refine ae ⟨(out,r1,k),q1,q2,h9,by simp only; omega,?_,fun j hj=>q6 j (Nat.lt_succ_of_lt hj)⟩ (by simp only; omega) [] (by simp) (fun _ _ _ _ h=>h) (by omega) (by simp -implicitDefEqProofs [go_sem]) (by simp -implicitDefEqProofs [go_sem])
     simp only
     rw [hok,q6 k (by omega),Nat.zero_add]; exact hr2
    ·have hc9:¬bI r1 V<0:=by
      rcases Nat.lt_or_ge V r1 with h|h
      ·rw [cJ (by omega)]; omega
      ·rw [show r1=V by omega,eQ]; omega
     have hg9:=hgs r1 hrA h9 hrV
     have hdm:=Nat.div_add_mod r1 V
     have hlt9:=Nat.mod_lt r1 h0
     have fe:r1 / V<4294967296:=by rw [Nat.div_lt_iff_lt_mul h0,Nat.mul_comm]; exact hrV
     have hd0:0<r1 / V:=Nat.div_pos h9 h0
     obtain ⟨d,hdd⟩:∃d,d=r1 / V:=⟨_,rfl⟩
     rw [←hdd] at hg9 hdm fe hd0
     have hml9:=hml d fe
     rw [dK (B:=4294967296) (by omega) (by omega) fe] at hml9
     have hsb9:=hsb r1 (V*d) hrA (by omega)
     rw [show r1-V*d=r1%V by omega] at hsb9
     obtain ⟨r2,hr22⟩:∃d,d=r1%V:=⟨_,rfl⟩
     obtain ⟨vd,hvd⟩:∃e,e=V*d:=⟨_,rfl⟩
     rw [←hr22] at hsb9 hdm hlt9
     rw [←hvd] at hsb9 hml9 hdm
     simp -implicitDefEqProofs [go_sem,hc9]
     refine ag hg9 ?_
     simp -implicitDefEqProofs [go_sem,g2,cT]
     refine ⟨by omega,hko,bT [11] _ hml9 (by simp -implicitDefEqProofs [go_sem]) (by simp -implicitDefEqProofs [go_sem]) (by simp -implicitDefEqProofs [go_sem]) (by simp -implicitDefEqProofs [go_sem]) ?_⟩
     simp -implicitDefEqProofs [go_sem]
     refine ag hsb9 ?_
     simp -implicitDefEqProofs [go_sem,ek2]
     refine ae ⟨(out.set k d,r2,k),by simp [q1],q2.set fe k,hlt9,by simp only; omega,?_,fun j hj=>by simp only at hj; rw [getD_set_ne (by omega)]; exact q6 j (by omega)⟩ (by simp only; omega) [] (by simp) (fun _ _ _ _ h=>h) (by omega) (by simp -implicitDefEqProofs [go_sem]) (by simp -implicitDefEqProofs [go_sem])
     simp only
     have e9:(out.set k d).drop k=d::out.drop (k+1):=by
      rw [List.drop_eq_getElem_cons (by simpa using hko),List.drop_set_of_lt (by omega)]
      simp
     rw [e9,bH,hr2,Nat.mul_add V,←hdm,hvd]
     omega
   ·have hi:i=0:=by omega
    subst hi
    simp only [List.drop_zero] at q5
    have hQ:lv 4294967296 out=QQ:=by rw [hQQ,←hva,q5,Nat.mul_add_div (by omega),Nat.div_eq_of_lt q3,Nat.add_zero]
    have hR:m=RR:=by rw [hRR,←hva,q5,Nat.mul_add_mod,Nat.mod_eq_of_lt q3]
    refine bT [1] _ (c_ out (by unfold cH; omega)) (by simp -implicitDefEqProofs [go_sem,←q1,cW]) (by simp -implicitDefEqProofs [go_sem]) (by simp -implicitDefEqProofs [go_sem,q1]) (by simp -implicitDefEqProofs [go_sem]) ?_
    rw [aK (by omega) q2,hQ,hR]
    simp -implicitDefEqProofs [go_sem,aS]
theorem vZ (A V:Nat) (ha:cf (am 4294967296 A)) (hb:cf (am 4294967296 V)):ab Tryz.prog 154 [qA A,qA V] (qA (Nat.gcd A V)):=by
 refine Pg Tryz.func154 rfl [.tmp 4] rfl (by simp -implicitDefEqProofs [go_sem,qA]) ?_
 unfold qA at *
 obtain ⟨g,hg⟩:∃g,g=Nat.gcd A V:=⟨_,rfl⟩
 rw [←hg]
 simp -implicitDefEqProofs [go_sem]
 refine aj 9 (α:={p:Nat×Nat // cf (am 4294967296 p.1)∧cf (am 4294967296 p.2)∧Nat.gcd p.1 p.2=g}) (fun p=>[(0,mA (am 4294967296 p.1.1)),(1,mA (am 4294967296 p.1.2))]) (fun p=>[]) (fun p=>p.1.2) ⟨(A,V),ha,hb,hg.symm⟩ [] (by simp) (by simp) (by simp) (by simp -implicitDefEqProofs [go_sem]) (by simp -implicitDefEqProofs [go_sem]) fun ⟨⟨x,y⟩,h1,h2,h3⟩=>?_
 simp only at h1 h2 h3
 simp -implicitDefEqProofs [go_sem]
 refine ⟨fun h=>?_,fun h=>?_⟩
 ·have hy:0<y:=by
   rcases Nat.eq_zero_or_pos y with hh|hh
   ·subst hh; rw [aP] at h; simp at h
   ·exact hh
  have hd:=gt x y h1 h2 hy
  unfold qA at hd
  have hlt:=Nat.mod_lt x hy
  obtain ⟨q,hq⟩:∃q,q=x / y:=⟨_,rfl⟩
  obtain ⟨r,hr⟩:∃q,q=x%y:=⟨_,rfl⟩
  rw [←hq,←hr] at hd
  rw [←hr] at hlt
  refine ag hd ?_
  simp -implicitDefEqProofs [go_sem]
  refine ae ⟨(y,r),h2,Nat.lt_of_le_of_lt (eI (by omega) (by simp only; omega)) h2,?_⟩ (by simp only; omega) [] (by simp) (by simp) (by simp) (by simp -implicitDefEqProofs [go_sem]) (by simp)
  simp only
  rw [←h3,hr,Nat.gcd_comm,←Nat.gcd_rec,Nat.gcd_comm]
 ·have hy:y=0:=by
   have:am 4294967296 y=[]:=by
    cases hl:am 4294967296 y with
    | nil=>rfl
    | cons c l=>rw [hl] at h; simp at h
   exact (aY (by omega)).1 this
  rw [hy,Nat.gcd_zero_right] at h3
  rw [h3]
theorem Hg {A:Nat} {out:List Nat} (l:bu 18446744073709551616 out) (h:lv 18446744073709551616 out=A) (hl:2*out.length≤(am 4294967296 A).length+1):out=am 18446744073709551616 A:=by
 have h1:=aK (B:=18446744073709551616) (by omega) l
 rw [h] at h1
 have h2:=g9 out
 have h3:(aI out).length=out.length:=by
  rcases Nat.lt_or_ge (aI out).length out.length with h4|h4
  ·exfalso
   by_cases h0:A=0
   ·subst h0
    rw [aP] at hl
    simp only [List.length_nil] at hl
    omega
   ·obtain ⟨bl,bt,e,hbt⟩:=fD (B:=4294967296) (by omega) h0
    have hA:=aq (B:=4294967296) (by omega) A
    rw [e,bG,bH,dt,Nat.mul_zero,Nat.add_zero] at hA
    have h5:4294967296 ^ bl.length*1≤4294967296 ^ bl.length*bt:=Nat.mul_le_mul_left _ (Nat.pos_iff_ne_zero.2 hbt)
    have h6:=cq (B:=18446744073709551616) l.trim
    rw [f_,h,←yv] at h6
    rw [e,List.length_append,List.length_singleton] at hl
    have h7:4294967296 ^ (2*(aI out).length)≤4294967296 ^ bl.length:=Nat.pow_le_pow_right (by omega) (by omega)
    generalize 4294967296 ^ (2*(aI out).length)=u at *
    generalize 4294967296 ^ bl.length=w at *
    omega
  ·have:=eZ out
   exact Nat.le_antisymm this h4
 rw [h3,List.take_length] at h2
 rw [←h1]
 exact h2
theorem uu (A:Nat) (ha:cf (am 4294967296 A)):ab Tryz.prog 203 [qA A] (nA (am 18446744073709551616 A)):=by
 unfold cf at ha
 have hva:=aq (B:=4294967296) (by omega) A
 have la:=an (B:=4294967296) (by omega) A
 have hoe:=fun out => @Hg A out
 unfold qA
 refine ab.of_ca (fV _) (Cg Tryz.func203 rfl [.tmp 2] rfl ?_)
 generalize am 4294967296 A=a at *
 simp -implicitDefEqProofs [go_sem]
 refine aj 9 (α:={p:List Nat×Nat // p.2=2*p.1.length∧p.2≤a.length+1∧bu 18446744073709551616 p.1∧lv 18446744073709551616 p.1=lv 4294967296 (a.take p.2)}) (fun p=>[(0,mA a),(3,b9 1 8 (uA .u64 p.1.1)),(4,.int .i64 p.1.2)]) (fun p=>dZ 1 8 (uA .u64 p.1.1)) (fun p=>a.length+1-p.1.2) ⟨([],0),by simp [dI]⟩ [] (by simp) (by simp [go_sem]) (by simp) (by simp -implicitDefEqProofs [go_sem]) (by simp [go_sem]) fun ⟨⟨out,i⟩,h1,h2,h3,h4⟩=>?_
 simp only at h1 h2 h3 h4
 simp -implicitDefEqProofs [go_sem]
 refine ⟨fun h=>?_,fun h=>?_⟩
 ·have hg:=aQ .u32 (l:=a) (i:=i) (by omega)
  have hx:=la.getD (by omega) i
  have t1:=aA 4294967296 a i
  have t2:=aA 4294967296 a (i+1)
  obtain ⟨x,hxe⟩:∃x,x=a.getD i 0:=⟨_,rfl⟩
  rw [←hxe] at hg hx t1
  have e1:IntKind.u64.wrap (x:Int)=x:=bE (by omega)
  have e2:IntKind.i64.wrap ((i:Int)+1)=((i+1:Nat):Int):=by rw [bO (by omega)]; omega
  have e3:IntKind.i64.wrap ((i:Int)+2)=((i+2:Nat):Int):=by rw [bO (by omega)]; omega
  have hpw:4294967296 ^ i=18446744073709551616 ^ out.length:=by rw [h1,yv]
  rcases Nat.lt_or_ge (i+1) a.length with h5|h5
  ·have hg2:=aQ .u32 (l:=a) (i:=i+1) (by omega)
   have hy:=la.getD (by omega) (i+1)
   obtain ⟨y,hye⟩:∃x,x=a.getD (i+1) 0:=⟨_,rfl⟩
   rw [←hye] at hg2 hy t2
   obtain ⟨i1,hi1⟩:∃j,j=i+1:=⟨_,rfl⟩
   rw [←hi1] at e2 hg2 h5
   have e4:IntKind.u64.wrap (y:Int)=y:=bE (by omega)
   have e5:IntKind.u64.wrap ((y:Int)*4294967296)=(y*4294967296:Nat):=by rw [bE (by omega)]; omega
   obtain ⟨y2,hy2⟩:∃j,j=y*4294967296:=⟨_,rfl⟩
   rw [←hy2] at e5
   have e6:IntKind.u64.wrap ((x:Int)+y2)=(x+y2:Nat):=iQ (by omega)
   obtain ⟨z,hz⟩:∃j,j=x+y2:=⟨_,rfl⟩
   rw [←hz] at e6
   simp -implicitDefEqProofs [go_sem,hg,hg2,e1,e2,e4,e5,e6,h5]
   refine ⟨h,bf (by simp [go_sem]) (by omega) (by omega) (by simp [go_sem]) (by simp; omega) (fun hne=>by simp [go_sem,hne]) ?_⟩
   simp -implicitDefEqProofs [go_sem,e3]
   refine ae ⟨(out++[z],i+2),by simp [h1]; omega,by simp only; omega,bm.2 ⟨h3,fun w hw=>by simp at hw; omega⟩,?_⟩ (by simp only; omega) [(8,10)] (by simp) (by simp [go_sem,aL]) (by simp) (by simp -implicitDefEqProofs [go_sem,aL]) (by simp -implicitDefEqProofs [go_sem,aL])
   simp only
   rw [bG,h4,bH,dt,Nat.mul_zero,Nat.add_zero,←hpw,show i+2=i+1+1 by omega,t2,t1,hz,hy2,Nat.mul_add,Nat.pow_succ,Nat.mul_assoc,Nat.mul_comm y]
   omega
  ·have e7:¬(i+1:Nat)<a.length:=by omega
   have e8:¬((i+1:Nat):Int)<a.length:=by omega
   obtain ⟨i1,hi1⟩:∃j,j=i+1:=⟨_,rfl⟩
   rw [←hi1] at e2 e7 e8
   simp -implicitDefEqProofs [go_sem,hg,e1,e2,e7]
   refine ⟨h,bf (by simp [go_sem]) (by omega) (by omega) (by simp [go_sem]) (by simp; omega) (fun hne=>by simp [go_sem,hne]) ?_⟩
   simp -implicitDefEqProofs [go_sem,e3]
   refine ae ⟨(out++[x],i+2),by simp [h1]; omega,by simp only; omega,bm.2 ⟨h3,fun w hw=>by simp at hw; omega⟩,?_⟩ (by simp only; omega) [(8,10)] (by simp) (by simp [go_sem,aL]) (by simp) (by simp -implicitDefEqProofs [go_sem,aL]) (by simp -implicitDefEqProofs [go_sem,aL])
   simp only
   rw [bG,h4,bH,dt,Nat.mul_zero,Nat.add_zero,←hpw,←t1,List.take_of_length_le (by omega),List.take_of_length_le (by omega)]
 ·rw [List.take_of_length_le (by omega),hva] at h4
  have he:=hoe out h3 h4 (by omega)
  rw [←he]
  by_cases h0:out=[]
  ·subst h0
   simp -implicitDefEqProofs [go_sem,b9]
   exact Wk.nil 0 1 true
  ·have hne:uA .u64 out≠[]:=by simpa [uA] using h0
   simp -implicitDefEqProofs [go_sem,aN hne,aJ hne,cW]
   exact Wk.refl _
structure ZR where
 neg:Bool
 n:List Nat
def ef (neg:Bool) (x:Nat):Int:=if neg then -(x:Int) else x
def ZR.av (z:ZR):AV := .agg [.bool z.neg,nA z.n]
def ZR.val (z:ZR):Int:=ef z.neg (lv 18446744073709551616 z.n)
structure ZR.Ok (z:ZR):Prop where
 len:cf z.n
 lim:bu 18446744073709551616 z.n
def zc (x:Int):ZR:=⟨decide (x<0),am 18446744073709551616 x.natAbs⟩
def zA (x:Int):AV:=(zc x).av
def nl (x:Nat):Nat:=(am 18446744073709551616 x).length
def nn (x:Nat):Prop:=cf (am 18446744073709551616 x)
theorem iv {x:Nat}:nn x↔nl x<1099511627776:=Iff.rfl
theorem cL (x:Int):(zc x).val=x:=by
 unfold ZR.val zc ef
 simp only [aq (B:=18446744073709551616) (by omega),decide_eq_true_eq]
 split<;>omega
theorem iM {x:Int} (h:nn x.natAbs):(zc x).Ok:=⟨h,an (by omega) _⟩
theorem dl (b:Bool) (x:Nat):(ef b x).natAbs=x:=by unfold ef; split<;>omega
theorem sO (b:Bool) (x:Nat):decide (ef b x<0)=(b && decide (0<x)):=by
 unfold ef
 cases b<;>simp<;>omega
theorem HZ (b:Bool) (x:Nat):zA (ef b x) = .agg [.bool (b && decide (0<x)),nA (am 18446744073709551616 x)]:=by
 unfold zA zc ZR.av; simp only [dl,sO]
theorem Hb {x:Nat}:decide (0<(am 18446744073709551616 x).length)=decide (0<x):=by
 congr 1
 rw [List.length_pos_iff,ne_eq,aY (by omega),Nat.pos_iff_ne_zero]
theorem mU (x:Int):ro (zA x):=by unfold zA ZR.av; simp -implicitDefEqProofs [go_sem]
theorem K0 (z:ZR):ro z.av:=by unfold ZR.av; simp -implicitDefEqProofs [go_sem]
theorem eP (neg:Bool) (n:List Nat) (hn:cf n) (ln:bu 18446744073709551616 n):ab Tryz.prog 162 [.bool neg,nA n] (zA (ef neg (lv 18446744073709551616 n))):=by
 have ha:=tk n [] hn (by unfold cf; simp) ln dI
 rw [dt,Nat.add_zero] at ha
 refine Pg Tryz.func162 rfl [.cell 4 25] rfl (mU _) ?_
 rw [HZ]
 simp -implicitDefEqProofs [go_sem]
 refine ag (ha.args (.cons (Wk.refl _) (.cons (Wk.nil 0 1 true) .nil))) ?_
 have hp:=Hb (x:=lv 18446744073709551616 n)
 generalize lv 18446744073709551616 n=x at *
 simp -implicitDefEqProofs [go_sem,aS]
 refine ⟨fun h=>by rw [hp,h]; rfl,fun h h2=>by rw [h] at h2; cases h2⟩
theorem kA (z:ZR) (hz:z.Ok):ab Tryz.prog 167 [z.av] (zA z.val):=by
 obtain ⟨neg,n⟩:=z
 have hm:=eP neg n hz.len hz.lim
 refine Pg Tryz.func167 rfl [.cell 2 25] rfl (mU _) ?_
 unfold ZR.val
 simp only
 obtain ⟨y,hy⟩:∃y,y=ef neg (lv 18446744073709551616 n):=⟨_,rfl⟩
 rw [←hy] at hm ⊢
 simp -implicitDefEqProofs [go_sem,ZR.av]
 refine ag hm ?_
 simp -implicitDefEqProofs [go_sem,aS,zA,ZR.av]
theorem yK (b:Bool) (x:Nat):ef (!b) x = -(ef b x):=by unfold ef; cases b<;>simp
theorem rk (z:ZR) (hz:z.Ok):ab Tryz.prog 159 [z.av] (zA (-z.val)):=by
 obtain ⟨neg,n⟩:=z
 have hm:=eP (!neg) n hz.len hz.lim
 rw [yK] at hm
 refine Pg Tryz.func159 rfl [.cell 2 25] rfl (mU _) ?_
 unfold ZR.val
 simp only
 obtain ⟨y,hy⟩:∃y,y = -ef neg (lv 18446744073709551616 n):=⟨_,rfl⟩
 rw [←hy] at hm ⊢
 simp -implicitDefEqProofs [go_sem,ZR.av]
 refine ag hm ?_
 simp -implicitDefEqProofs [go_sem,aS,zA,ZR.av]
theorem vo (v:Int) (h : -9223372036854775808≤v∧v≤9223372036854775807):ab Tryz.prog 85 [.int .i64 v] (zA v):=by
 refine Pg Tryz.func85 rfl [.cell 2 25] rfl (mU _) ?_
 have hof:=of_pure v.natAbs (by omega)
 have hlen:cf (am 18446744073709551616 v.natAbs):=by unfold cf; have:=cj (B:=18446744073709551616) (n:=v.natAbs) (k:=1) (by omega) (by omega); omega
 have h1:=eP true (am 18446744073709551616 v.natAbs) hlen (an (by omega) _)
 have h2:=eP false (am 18446744073709551616 v.natAbs) hlen (an (by omega) _)
 rw [aq (by omega)] at h1 h2
 simp -implicitDefEqProofs [go_sem]
 refine ⟨fun h0=>?_,fun h0=>?_⟩
 ·have e1:IntKind.u64.wrap (IntKind.u64.wrap (IntKind.i64.wrap (-IntKind.i64.wrap (v+1)))+1)=(v.natAbs:Nat):=by
   rw [bO (x:=v+1) (by omega),bO (by omega),bE (x := -(v+1)) (by omega),bE (by omega)]; omega
  rw [e1]
  have e2:ef true v.natAbs=v:=by unfold ef; simp only [if_true]; omega
  rw [e2] at h1
  refine ag hof ?_
  simp -implicitDefEqProofs [go_sem]
  refine ag h1 ?_
  simp -implicitDefEqProofs [go_sem,aS,zA,ZR.av]
 ·have e1:IntKind.u64.wrap v=(v.natAbs:Nat):=by rw [bE (by omega)]; omega
  rw [e1]
  have e2:ef false v.natAbs=v:=by unfold ef; simp only [Bool.false_eq_true,if_false]; omega
  rw [e2] at h2
  refine ag hof ?_
  simp -implicitDefEqProofs [go_sem]
  refine ag h2 ?_
  simp -implicitDefEqProofs [go_sem,aS,zA,ZR.av]
theorem sP (b c:Bool) (x y:Nat):ef (b != c) (x*y)=ef b x*ef c y:=by
 unfold ef
 cases b<;>cases c<;>simp [Int.natCast_mul,Int.neg_mul,Int.mul_neg]
theorem A1 (a b:ZR) (ha:a.Ok) (hb:b.Ok) (hab:nn (a.val*b.val).natAbs):ab Tryz.prog 89 [a.av,b.av] (zA (a.val*b.val)):=by
 obtain ⟨na,a⟩:=a
 obtain ⟨nb,b⟩:=b
 have h1:=uh a b ha.len hb.len ha.lim hb.lim
 unfold ZR.val at *
 simp only at *
 rw [←sP,dl] at hab
 have hm:=eP (na != nb) _ hab (an (by omega) _)
 rw [aq (by omega),sP] at hm
 refine Pg Tryz.func89 rfl [.cell 4 25] rfl (mU _) ?_
 generalize ef na (lv 18446744073709551616 a)*ef nb (lv 18446744073709551616 b)=y at *
 generalize lv 18446744073709551616 a*lv 18446744073709551616 b=xy at *
 simp -implicitDefEqProofs [go_sem,ZR.av]
 refine aa h1 ?_
 simp -implicitDefEqProofs [go_sem]
 refine aa (show ab Tryz.prog 162 [.bool (!(na == nb)),nA (am 18446744073709551616 xy)] (zA y) from hm) ?_
 simp -implicitDefEqProofs [go_sem,aS,zA,ZR.av]
theorem ec {x y:Nat} (h:x≤y):nl x≤nl y:=eI (by omega) h
theorem nn.mono {x y:Nat} (hy:nn y) (h:x≤y):nn x:=Nat.lt_of_le_of_lt (ec h) hy
theorem lu (b:Bool):ef b 0=0:=by unfold ef; cases b<;>rfl
theorem lm (x:Int):ef (decide (x<0)) x.natAbs=x:=by
 unfold ef; simp only [decide_eq_true_eq]; split<;>omega
theorem jF (a b:ZR) (ha:a.Ok) (hb:b.Ok) (hab:nn (a.val.natAbs+b.val.natAbs)):ab Tryz.prog 161 [a.av,b.av] (zA (a.val+b.val)):=by
 have ga:=kA a ha
 have gb:=kA b hb
 have fa:nn a.val.natAbs:=hab.mono (by omega)
 have fb:nn b.val.natAbs:=hab.mono (by omega)
 unfold ZR.av at ga gb ⊢
 generalize a.val=x at *
 generalize b.val=y at *
 obtain ⟨na,a⟩:=a
 obtain ⟨nb,b⟩:=b
 have la:=an (B:=18446744073709551616) (by omega) x.natAbs
 have lb:=an (B:=18446744073709551616) (by omega) y.natAbs
 have va:=aq (B:=18446744073709551616) (by omega) x.natAbs
 have vb:=aq (B:=18446744073709551616) (by omega) y.natAbs
 have hadd:=tk _ _ fa fb la lb
 rw [va,vb] at hadd
 have hmk:=fun neg (k:Nat) (hk:k≤x.natAbs+y.natAbs)=>eP neg (am 18446744073709551616 k) (hab.mono hk) (an (by omega) _)
 simp only [aq (B:=18446744073709551616) (by omega)] at hmk
 have hcmp:=kF _ _ fa fb la lb
 rw [va,vb] at hcmp
 have hsub1:=uW _ _ fa fb la lb
 have hsub2:=uW _ _ fb fa lb la
 rw [va,vb] at hsub1 hsub2
 refine Pg Tryz.func161 rfl [.cell 4 25] rfl (mU _) ?_
 simp -implicitDefEqProofs [go_sem]
 refine aa ga ?_
 simp -implicitDefEqProofs [go_sem,zA,ZR.av,zc]
 refine aa gb ?_
 simp -implicitDefEqProofs [go_sem,zA,ZR.av,zc]
 refine ⟨fun h=>?_,fun h=>?_⟩
 ·have hm:=hmk (decide (x<0)) _ (Nat.le_refl _)
  rw [show ef (decide (x<0)) (x.natAbs+y.natAbs)=x+y by unfold ef; simp only [decide_eq_true_eq]; split<;>omega] at hm
  generalize x.natAbs+y.natAbs=s at *
  refine aa hadd ?_
  simp -implicitDefEqProofs [go_sem,zA,ZR.av,zc]
  refine aa hm ?_
  simp -implicitDefEqProofs [go_sem,aS,zA,ZR.av,zc]
 ·refine ag hcmp ?_
  rcases Nat.lt_or_ge x.natAbs y.natAbs with h1|h1
  ·have hc:bI x.natAbs y.natAbs<0:=by rw [dg (by omega)]; omega
   have hm:=hmk (decide (y<0)) (y.natAbs-x.natAbs) (by omega)
   rw [show ef (decide (y<0)) (y.natAbs-x.natAbs)=x+y by unfold ef; simp only [decide_eq_true_eq]; split<;>omega] at hm
   have hs:=hsub2 (by omega)
   generalize y.natAbs-x.natAbs=s at *
   generalize bI x.natAbs y.natAbs=c at *
   simp -implicitDefEqProofs [go_sem,zA,ZR.av,zc,hc]
   refine ag hs ?_
   simp -implicitDefEqProofs [go_sem,zA,ZR.av,zc]
   refine ag hm ?_
   simp -implicitDefEqProofs [go_sem,aS,zA,ZR.av,zc]
  ·have hc:¬bI x.natAbs y.natAbs<0:=by
    rcases Nat.lt_or_ge y.natAbs x.natAbs with h|h
    ·rw [cJ (by omega)]; omega
    ·rw [show x.natAbs=y.natAbs by omega,eQ]; omega
   have hm:=hmk (decide (x<0)) (x.natAbs-y.natAbs) (by omega)
   rw [show ef (decide (x<0)) (x.natAbs-y.natAbs)=x+y by unfold ef; simp only [decide_eq_true_eq]; split<;>omega] at hm
   have hs:=hsub1 h1
   generalize x.natAbs-y.natAbs=s at *
   generalize bI x.natAbs y.natAbs=c at *
   simp -implicitDefEqProofs [go_sem,zA,ZR.av,zc,hc]
   refine ag hs ?_
   simp -implicitDefEqProofs [go_sem,zA,ZR.av,zc]
   refine ag hm ?_
   simp -implicitDefEqProofs [go_sem,aS,zA,ZR.av,zc]
theorem A3 (a b:ZR) (ha:a.Ok) (hb:b.Ok) (hab:nn (a.val.natAbs+b.val.natAbs)):ab Tryz.prog 165 [a.av,b.av] (zA (a.val-b.val)):=by
 have hn:=rk b hb
 have fb:nn (-b.val).natAbs:=hab.mono (by omega)
 have h2:=jF a (zc (-b.val)) ha (iM fb) (by rw [cL]; exact hab.mono (by omega))
 rw [cL,←Int.sub_eq_add_neg] at h2
 generalize a.val-b.val=y at *
 refine Pg Tryz.func165 rfl [.cell 4 25] rfl (mU _) ?_
 change ab _ _ [a.av,zA (-b.val)] _ at h2
 generalize -b.val=z at *
 unfold zA at *
 unfold ZR.av at *
 simp -implicitDefEqProofs [go_sem]
 refine aa hn ?_
 simp -implicitDefEqProofs [go_sem]
 refine aa h2 ?_
 simp -implicitDefEqProofs [go_sem,aS]
@[go_sem] theorem Mg:jc Tryz.prog 250=some .i64:=by kernel_rfl
theorem xB (x:Int):ab Tryz.prog 168 [.agg [.bool (decide (x<0)),nA (am 18446744073709551616 x.natAbs)]] (.bool (decide (x<0))):=by
 refine Pg Tryz.func168 rfl [.tmp 2] rfl (by simp -implicitDefEqProofs [go_sem]) ?_
 simp -implicitDefEqProofs [go_sem]
theorem vn (x:Int):ab Tryz.prog 169 [.agg [.bool (decide (x<0)),nA (am 18446744073709551616 x.natAbs)]] (.bool (decide (x=0))):=by
 refine Pg Tryz.func169 rfl [.tmp 2] rfl (by simp -implicitDefEqProofs [go_sem]) ?_
 have h:am 18446744073709551616 x.natAbs=[]↔x=0:=by rw [aY (by omega)]; omega
 simp -implicitDefEqProofs [go_sem,h]
def eX (x:Int):Int:=if x<0 then -1 else if x=0 then 0 else 1
theorem kB (z:ZR) (hz:z.Ok):ab Tryz.prog 93 [z.av] (.int .i64 (eX z.val)):=by
 have hg:=kA z hz
 have h1:=xB z.val
 have h2:=vn z.val
 generalize z.val=x at *
 refine Pg Tryz.func93 rfl [.tmp 2] rfl (by simp -implicitDefEqProofs [go_sem]) ?_
 unfold zA at *
 unfold ZR.av at *
 unfold zc at *
 simp only at *
 generalize am 18446744073709551616 x.natAbs=L at *
 simp -implicitDefEqProofs [go_sem]
 refine ag hg ?_
 simp -implicitDefEqProofs [go_sem]
 obtain ⟨N,hN⟩:∃N,N=AV.agg [AV.bool (decide (x<0)),nA L]:=⟨_,rfl⟩
 have hroN:ro N:=by rw [hN]; simp -implicitDefEqProofs [go_sem]
 obtain ⟨T,hT⟩:∃T,T=ar (ar (ar (fun _=>AV.any) 0 (.fn (.func 168) [N] [])) 1 (.fn (.func 169) [N] [])) 2 (.fn (.func 170) [N] []):=⟨_,rfl⟩
 have hro:∀j,ro (T j):=by
  intro j
  rw [hT]
  simp only [ar]
  split
  ·simp -implicitDefEqProofs [go_sem,hroN]
  ·split
   ·simp -implicitDefEqProofs [go_sem,hroN]
   ·split<;>simp -implicitDefEqProofs [go_sem,hroN]
 have T0:T 0 = .fn (.func 168) [N] []:=by rw [hT]; simp -implicitDefEqProofs [go_sem]
 have T1:T 1 = .fn (.func 169) [N] []:=by rw [hT]; simp -implicitDefEqProofs [go_sem]
 rw [←hN] at h1 h2
 refine aj 9 (α:={s:Nat // s≤2∧(1≤s→¬x<0)∧(2≤s→x≠0)}) (fun s=>[(4,.mp 2),(5,.int .i64 ((s.1:Int)-1))]) (fun s=>[(2,.obj (.map #[⟨.int .i64 (-1),undef,0⟩,⟨.int .i64 0,undef,1⟩,⟨.int .i64 1,undef,2⟩] 3) T)]) (fun s=>2-s.1) ⟨0,by omega,by omega,by omega⟩ [] (by simp) (by simp) (by omega) (by simp -implicitDefEqProofs [go_sem]) (by simp -implicitDefEqProofs [go_sem,hT,hN]; exact fun j=>by have:=hro j; rw [hT,hN] at this; exact this) fun ⟨s,q1,q2,q3⟩=>?_
 have hs:s=0∨s=1∨s=2:=by omega
 rcases hs with rfl|rfl|rfl
 ·simp -implicitDefEqProofs [go_sem,T0]
  refine ai _ h1 (by simp [go_sem,hroN]) ?_
  simp -implicitDefEqProofs [go_sem]
  refine ⟨fun h=>?_,fun h=>?_⟩
  ·simp [eX,h]
  ·exact ae ⟨1,by omega,fun _=>by omega,by omega⟩ (by simp only; omega) [] (by simp) (by simp) (by omega) (by simp -implicitDefEqProofs [go_sem]; rfl) (by simp -implicitDefEqProofs [go_sem,hro])
 ·simp -implicitDefEqProofs [go_sem,T1]
  refine ai _ h2 (by simp [go_sem,hroN]) ?_
  simp -implicitDefEqProofs [go_sem]
  refine ⟨fun h=>?_,fun h=>?_⟩
  ·simp [eX,h]
  ·exact ae ⟨2,by omega,fun _=>q2 (by omega),fun _=>h⟩ (by simp only; omega) [] (by simp) (by simp) (by omega) (by simp -implicitDefEqProofs [go_sem]; rfl) (by simp -implicitDefEqProofs [go_sem,hro])
 ·simp -implicitDefEqProofs [go_sem]
  have g1:=q2 (by omega)
  have g2:=q3 (by omega)
  simp [eX,g1,g2]
theorem uR {x y:Int}:eX (x-y)=bI x y:=by
 unfold eX bI; split<;>split<;>(try split)<;>omega
theorem A0 (a b:ZR) (ha:a.Ok) (hb:b.Ok) (hab:nn (a.val.natAbs+b.val.natAbs)):ab Tryz.prog 88 [a.av,b.av] (.int .i64 (bI a.val b.val)):=by
 have h1:=A3 a b ha hb hab
 have h2:=kB (zc (a.val-b.val)) (iM (hab.mono (by omega)))
 rw [cL,uR] at h2
 generalize bI a.val b.val=c at *
 change ab _ _ [zA (a.val-b.val)] _ at h2
 generalize a.val-b.val=z at *
 refine Pg Tryz.func88 rfl [.tmp 4] rfl (by simp -implicitDefEqProofs [go_sem]) ?_
 unfold zA at *
 unfold ZR.av at *
 simp -implicitDefEqProofs [go_sem]
 refine ag h1 ?_
 simp -implicitDefEqProofs [go_sem]
 refine ag h2 ?_
 simp -implicitDefEqProofs [go_sem]
structure RQ where
 neg:Bool
 p:List Nat
 q:List Nat
def RQ.av (z:RQ):AV := .agg [.bool z.neg,nA z.p,nA z.q]
def RQ.num (z:RQ):Int:=ef z.neg (lv 18446744073709551616 z.p)
def RQ.den (z:RQ):Nat:=if lv 18446744073709551616 z.q=0 then 1 else lv 18446744073709551616 z.q
def RQ.val (z:RQ):Rat:=mkRat z.num z.den
structure RQ.Ok (z:RQ):Prop where
 lenp:cf z.p
 limp:bu 18446744073709551616 z.p
 lenq:cf z.q
 limq:bu 18446744073709551616 z.q
def qc (x:Rat):RQ:=⟨decide (x.num<0),am 18446744073709551616 x.num.natAbs,am 18446744073709551616 x.den⟩
def rA (x:Rat):AV:=(qc x).av
theorem cA (x:Rat):ro (rA x):=by unfold rA RQ.av; simp -implicitDefEqProofs [go_sem]
theorem yH (z:RQ):ro z.av:=by unfold RQ.av; simp -implicitDefEqProofs [go_sem]
theorem Ho (x:Rat):(qc x).num=x.num:=by
 unfold RQ.num qc; simp only [aq (B:=18446744073709551616) (by omega)]; exact lm _
theorem Hn (x:Rat):(qc x).den=x.den:=by
 unfold RQ.den qc; simp only [aq (B:=18446744073709551616) (by omega)]
 rw [if_neg x.den_nz]
theorem cd (x:Rat):(qc x).val=x:=by
 unfold RQ.val; rw [Ho,Hn]; exact Rat.mkRat_self x
theorem sk (n:Int) {d:Nat} (h:d≠0):(mkRat n d).num=n / (Nat.gcd n.natAbs d:Nat):=by
 rw [←Rat.normalize_eq_mkRat h,Rat.normalize_eq]
theorem wE (n:Int) {d:Nat} (h:d≠0):(mkRat n d).den=d / Nat.gcd n.natAbs d:=by
 rw [←Rat.normalize_eq_mkRat h,Rat.normalize_eq]
theorem yJ (b:Bool) {x g:Nat} (h:g ∣ x):ef b (x / g)=ef b x / (g:Int):=by
 unfold ef
 cases b
 ·simp
 ·simp only [if_true]
  rw [Int.neg_ediv_of_dvd (Int.natCast_dvd_natCast.2 h)]; simp
theorem qB (z:ZR) (q:List Nat) (hz:z.Ok) (hq:cf q) (lq:bu 18446744073709551616 q) (h0:lv 18446744073709551616 q≠0):ab Tryz.prog 160 [z.av,nA q] (rA (mkRat z.val (lv 18446744073709551616 q))):=by
 obtain ⟨neg,p⟩:=z
 have hlp:=hz.len
 have hll:=hz.lim
 simp only at hlp hll
 have hg:=BN p q hlp hq hll lq
 obtain ⟨g,hgg⟩:∃g,g=Nat.gcd (lv 18446744073709551616 p) (lv 18446744073709551616 q):=⟨_,rfl⟩
 have hg0:g≠0:=by rw [hgg]; exact Nat.gcd_ne_zero_right h0
 have hgp:g ∣ lv 18446744073709551616 p:=by rw [hgg]; exact Nat.gcd_dvd_left _ _
 have hgl:g≤lv 18446744073709551616 q:=by rw [hgg]; exact Nat.le_of_dvd (Nat.pos_iff_ne_zero.2 h0) (Nat.gcd_dvd_right _ _)
 have hfq:nn (lv 18446744073709551616 q):=dA hq lq
 have hfp:nn (lv 18446744073709551616 p):=dA hlp hll
 have hd1:=iU p (am 18446744073709551616 g) hlp (hfq.mono hgl) hll (an (by omega) _) (by rw [aq (by omega)]; exact hg0)
 have hd2:=iU q (am 18446744073709551616 g) hq (hfq.mono hgl) lq (an (by omega) _) (by rw [aq (by omega)]; exact hg0)
 rw [aq (by omega)] at hd1 hd2
 rw [←hgg] at hg
 have ha:=jF ⟨neg,am 18446744073709551616 (lv 18446744073709551616 p / g)⟩ ⟨false,[]⟩ ⟨hfp.mono (Nat.div_le_self _ _),an (by omega) _⟩ ⟨by unfold cf; simp,dI⟩ (by
  unfold ZR.val
  simp only [aq (B:=18446744073709551616) (by omega),dt,dl]
  exact hfp.mono (Nat.div_le_self _ _))
 have hv:ZR.val ⟨neg,am 18446744073709551616 (lv 18446744073709551616 p / g)⟩+ZR.val ⟨false,[]⟩=(mkRat (ef neg (lv 18446744073709551616 p)) (lv 18446744073709551616 q)).num:=by
  rw [sk _ h0,dl,←hgg,←yJ neg hgp]
  unfold ZR.val
  simp only [aq (B:=18446744073709551616) (by omega),dt,lu,Int.add_zero]
 have hvd:(mkRat (ef neg (lv 18446744073709551616 p)) (lv 18446744073709551616 q)).den=lv 18446744073709551616 q / g:=by
  rw [wE _ h0,dl,←hgg]
 rw [hv] at ha
 unfold rA RQ.av qc ZR.val
 simp only
 rw [hvd]
 generalize (mkRat (ef neg (lv 18446744073709551616 p)) (lv 18446744073709551616 q)).num=N at *
 generalize lv 18446744073709551616 q / g=D at *
 generalize lv 18446744073709551616 p / g=U at *
 generalize lv 18446744073709551616 p%g=U1 at *
 generalize lv 18446744073709551616 q%g=D1 at *
 unfold zA ZR.av zc at *
 simp only at *
 refine Pg Tryz.func160 rfl [.cell 4 27] rfl (by simp -implicitDefEqProofs [go_sem]) ?_
 simp -implicitDefEqProofs [go_sem]
 refine ag hg ?_
 simp -implicitDefEqProofs [go_sem]
 refine ag hd1 ?_
 simp -implicitDefEqProofs [go_sem]
 refine ag hd2 ?_
 simp -implicitDefEqProofs [go_sem]
 refine ag (ha.args (.cons (Wk.refl _) (.cons (Wk.agg (.cons (Wk.refl _) (.cons (Wk.nil 0 1 true) .nil))) .nil))) ?_
 simp -implicitDefEqProofs [go_sem,aS]
theorem Hp (x:Int):rA (x:Rat) = .agg [.bool (decide (x<0)),nA (am 18446744073709551616 x.natAbs),nA (am 18446744073709551616 1)]:=by
 have h:qc (x:Rat)=⟨decide (x<0),am 18446744073709551616 x.natAbs,am 18446744073709551616 1⟩:=by
  have h1:(x:Rat).num=x:=Rat.num_intCast x
  have h2:(x:Rat).den=1:=Rat.den_intCast x
  unfold qc
  rw [h1,h2]
 unfold rA; rw [h]; rfl
theorem xz (x:Int):ab Tryz.prog 86 [zA x] (rA (x:Rat)):=by
 have hof:=of_pure 1 (by omega)
 refine Pg Tryz.func86 rfl [.cell 2 27] rfl (cA _) ?_
 rw [Hp]
 unfold zA ZR.av zc
 generalize am 18446744073709551616 1=o at *
 simp -implicitDefEqProofs [go_sem]
 refine aa hof ?_
 simp -implicitDefEqProofs [go_sem,aS]
theorem y9 {x:Nat}:bP x=0↔x=0:=by
 unfold bP; split<;>omega
theorem cQ (z:RQ) (hz:z.Ok):ab Tryz.prog 87 [z.av] (rA z.val):=by
 have ha:=jF ⟨z.neg,z.p⟩ ⟨false,[]⟩ ⟨hz.lenp,hz.limp⟩ ⟨by unfold cf; simp,dI⟩ (by
  unfold ZR.val
  simp only [dt,dl,Nat.add_zero]
  exact dA hz.lenp hz.limp)
 have hv:ZR.val ⟨z.neg,z.p⟩+ZR.val ⟨false,[]⟩=z.num:=by
  unfold ZR.val RQ.num
  simp only [dt,lu,Int.add_zero]
 rw [hv] at ha
 have hb:=y6 z.q hz.lenq hz.limq
 have hw:=xz z.num
 have hfn:nn z.num.natAbs:=by
  unfold RQ.num; rw [dl]; exact dA hz.lenp hz.limp
 have hm:=qB (zc z.num) z.q (iM hfn) hz.lenq hz.limq
 rw [cL] at hm
 change _→ab _ _ [zA z.num,_] _ at hm
 have hval:z.val=if lv 18446744073709551616 z.q=0 then (z.num:Rat) else mkRat z.num (lv 18446744073709551616 z.q):=by
  unfold RQ.val RQ.den
  split
  ·exact Rat.mkRat_one _
  ·rfl
 rw [hval]
 refine Pg Tryz.func87 rfl [.cell 2 27] rfl (cA _) ?_
 have hbz := @y9 (lv 18446744073709551616 z.q)
 generalize bP (lv 18446744073709551616 z.q)=bl at *
 generalize lv 18446744073709551616 z.q=Q at *
 generalize z.num=N at *
 unfold zA ZR.av zc RQ.av at *
 simp only at *
 generalize am 18446744073709551616 N.natAbs=L at *
 simp -implicitDefEqProofs [go_sem]
 refine ag (ha.args (.cons (Wk.refl _) (.cons (Wk.agg (.cons (Wk.refl _) (.cons (Wk.nil 0 1 true) .nil))) .nil))) ?_
 simp -implicitDefEqProofs [go_sem]
 refine ag hb ?_
 simp -implicitDefEqProofs [go_sem]
 refine ⟨fun h=>?_,fun h=>?_⟩
 ·rw [if_pos (hbz.1 (by omega))]
  refine ag hw ?_
  unfold rA RQ.av qc
  simp -implicitDefEqProofs [go_sem,aS]
 ·have h0:¬Q=0:=fun hh=>h (by have:=hbz.2 hh; omega)
  rw [if_neg h0]
  refine ag (hm h0) ?_
  unfold rA RQ.av qc
  simp -implicitDefEqProofs [go_sem,aS]
theorem Aw (z:RQ):ab Tryz.prog 90 [z.av] (ZR.av ⟨false,z.q⟩):=by
 refine Pg Tryz.func90 rfl [.cell 2 25] rfl (K0 _) ?_
 unfold RQ.av ZR.av
 simp -implicitDefEqProofs [go_sem,aS]
theorem tc (n:Nat):zA (n:Int)=ZR.av ⟨false,am 18446744073709551616 n⟩:=by
 unfold zA zc
 have h:decide ((n:Int)<0)=false:=by simp
 rw [h]; rfl
theorem jy (x:Rat):ab Tryz.prog 90 [rA x] (zA (x.den:Int)):=by
 rw [tc]; exact Aw (qc x)
theorem uj {x:Nat}:x<18446744073709551616 ^ nl x:=by
 have:=cq (an (B:=18446744073709551616) (by omega) x)
 rwa [aq (by omega)] at this
theorem oO {x k:Nat} (h:x<18446744073709551616 ^ k):nl x≤k:=cj (by omega) h
theorem aZ (x y:Nat):nl (x*y)≤nl x+nl y:=by
 refine oO ?_
 rw [Nat.pow_add]
 exact Nat.mul_lt_mul'' uj uj
theorem oN (x y:Nat):nl (x+y)≤max (nl x) (nl y)+1:=by
 refine oO ?_
 have h1:x<18446744073709551616 ^ max (nl x) (nl y):=Nat.lt_of_lt_of_le uj (Nat.pow_le_pow_right (by omega) (Nat.le_max_left _ _))
 have h2:y<18446744073709551616 ^ max (nl x) (nl y):=Nat.lt_of_lt_of_le uj (Nat.pow_le_pow_right (by omega) (Nat.le_max_right _ _))
 rw [Nat.pow_succ]
 generalize 18446744073709551616 ^ max (nl x) (nl y)=w at *
 omega
theorem ss:nl 0=0:=by unfold nl; rw [aP]; rfl
theorem je:nl 1=1:=by unfold nl; rw [dK (by omega) (by omega) (by omega)]; rfl
theorem qF {l:List Nat} (h:bu 18446744073709551616 l):nl (lv 18446744073709551616 l)≤l.length:=cj (by omega) (cq h)
def sz (x:Rat):Nat:=max (nl x.num.natAbs) (nl x.den)
theorem bA (x:Rat):nl x.num.natAbs≤sz x:=Nat.le_max_left _ _
theorem a9 (x:Rat):nl x.den≤sz x:=Nat.le_max_right _ _
structure RQ.Sm (z:RQ):Prop where
 lp:z.p.length≤17179869184
 limp:bu 18446744073709551616 z.p
 lq:z.q.length≤17179869184
 limq:bu 18446744073709551616 z.q
theorem RQ.Sm.ok {z:RQ} (h:z.Sm):z.Ok:=⟨by unfold cf; have:=h.lp; omega,h.limp,by unfold cf; have:=h.lq; omega,h.limq⟩
theorem pq (n:Int) {d:Nat} (h:d≠0):sz (mkRat n d)≤max (nl n.natAbs) (nl d):=by
 have h1:nl (mkRat n d).num.natAbs≤nl n.natAbs:=by
  rw [sk n h]
  refine ec ?_
  rw [Int.natAbs_ediv_of_dvd (Int.ofNat_dvd_left.2 (Nat.gcd_dvd_left _ _))]
  exact Nat.div_le_self _ _
 have h2:nl (mkRat n d).den≤nl d:=by
  rw [wE n h]
  exact ec (Nat.div_le_self _ _)
 unfold sz
 omega
theorem RQ.den_ne (z:RQ):z.den≠0:=by unfold RQ.den; split<;>omega
theorem gw {z:RQ} (h:z.Sm):sz z.val≤17179869184:=by
 have h1:=pq z.num z.den_ne
 have h2:nl z.num.natAbs≤z.p.length:=by unfold RQ.num; rw [dl]; exact qF h.limp
 have h3:nl z.den≤max 1 z.q.length:=by
  unfold RQ.den; split
  ·rw [je]; omega
  ·have:=qF h.limq; omega
 have:=h.lp
 have:=h.lq
 unfold RQ.val
 omega
theorem fT {x:Rat} (h:sz x≤17179869184):(qc x).Sm:=⟨Nat.le_trans (bA x) h,an (by omega) _,Nat.le_trans (a9 x) h,an (by omega) _⟩
theorem sz_neg (x:Rat):sz (-x)=sz x:=by unfold sz; rw [Rat.neg_num,Rat.neg_den,Int.natAbs_neg]
theorem wH (x y:Rat):x*y=mkRat (x.num*y.num) (x.den*y.den):=by rw [Rat.mul_def,Rat.normalize_eq_mkRat]
theorem vt (x y:Rat):x+y=mkRat (x.num*y.den+y.num*x.den) (x.den*y.den):=by rw [Rat.add_def,Rat.normalize_eq_mkRat]
theorem eB (x y:Rat):x.den*y.den≠0:=Nat.mul_ne_zero x.den_nz y.den_nz
theorem ce (x y:Rat):sz (x*y)≤sz x+sz y:=by
 rw [wH]
 have h:=pq (x.num*y.num) (eB x y)
 have h1:=aZ x.num.natAbs y.num.natAbs
 have h2:=aZ x.den y.den
 rw [Int.natAbs_mul] at h
 have:=bA x; have:=bA y; have:=a9 x; have:=a9 y
 omega
theorem sz_add (x y:Rat):sz (x+y)≤sz x+sz y+1:=by
 rw [vt]
 have h:=pq (x.num*y.den+y.num*x.den) (eB x y)
 have h1:=aZ x.num.natAbs y.den
 have h2:=aZ y.num.natAbs x.den
 have h3:=aZ x.den y.den
 have h4:(x.num*y.den+y.num*x.den).natAbs≤x.num.natAbs*y.den+y.num.natAbs*x.den:=by
  refine Nat.le_trans (Int.natAbs_add_le _ _) ?_
  rw [Int.natAbs_mul,Int.natAbs_mul]; simp
 have h5:=ec h4
 have h6:=oN (x.num.natAbs*y.den) (y.num.natAbs*x.den)
 have:=bA x; have:=bA y; have:=a9 x; have:=a9 y
 omega
theorem sz_sub (x y:Rat):sz (x-y)≤sz x+sz y+1:=by
 rw [Rat.sub_eq_add_neg]; have:=sz_add x (-y); rw [sz_neg] at this; exact this
theorem sX (n:Int):sz (n:Rat)=max (nl n.natAbs) 1:=by
 unfold sz; rw [Rat.num_intCast,Rat.den_intCast,je]
theorem pG (x y:Int) (h:nl x.natAbs+nl y.natAbs<1099511627776):ab Tryz.prog 89 [zA x,zA y] (zA (x*y)):=by
 have h1:nn x.natAbs:=by rw [iv]; omega
 have h2:nn y.natAbs:=by rw [iv]; omega
 have h3:nn (x*y).natAbs:=by rw [iv,Int.natAbs_mul]; have:=aZ x.natAbs y.natAbs; omega
 have:=A1 (zc x) (zc y) (iM h1) (iM h2) (by rw [cL,cL]; exact h3)
 rw [cL,cL] at this
 exact this
theorem Gd (x y:Int) (h:max (nl x.natAbs) (nl y.natAbs)+1<1099511627776):ab Tryz.prog 161 [zA x,zA y] (zA (x+y)):=by
 have h1:nn x.natAbs:=by rw [iv]; omega
 have h2:nn y.natAbs:=by rw [iv]; omega
 have h3:nn (x.natAbs+y.natAbs):=by rw [iv]; have:=oN x.natAbs y.natAbs; omega
 have:=jF (zc x) (zc y) (iM h1) (iM h2) (by rw [cL,cL]; exact h3)
 rw [cL,cL] at this
 exact this
theorem Ll (x y:Int) (h:max (nl x.natAbs) (nl y.natAbs)+1<1099511627776):ab Tryz.prog 88 [zA x,zA y] (.int .i64 (bI x y)):=by
 have h1:nn x.natAbs:=by rw [iv]; omega
 have h2:nn y.natAbs:=by rw [iv]; omega
 have h3:nn (x.natAbs+y.natAbs):=by rw [iv]; have:=oN x.natAbs y.natAbs; omega
 have:=A0 (zc x) (zc y) (iM h1) (iM h2) (by rw [cL,cL]; exact h3)
 rw [cL,cL] at this
 exact this
theorem Ge (x:Int) (h:nl x.natAbs<1099511627776):ab Tryz.prog 159 [zA x] (zA (-x)):=by
 have:=rk (zc x) (iM h)
 rw [cL] at this
 exact this
theorem H0 (x:Int) (h:nl x.natAbs<1099511627776):ab Tryz.prog 93 [zA x] (.int .i64 (eX x)):=by
 have:=kB (zc x) (iM h)
 rw [cL] at this
 exact this
theorem Cw (x:Int) (d:Nat) (h:nl x.natAbs<1099511627776) (hd:nl d<1099511627776) (h0:d≠0):ab Tryz.prog 160 [zA x,nA (am 18446744073709551616 d)] (rA (mkRat x d)):=by
 have:=qB (zc x) (am 18446744073709551616 d) (iM h) hd (an (by omega) _) (by rw [aq (by omega)]; exact h0)
 rw [cL,aq (by omega)] at this
 exact this
theorem FS (x y:Nat) (h:nl x+nl y<1099511627776):ab Tryz.prog 166 [nA (am 18446744073709551616 x),nA (am 18446744073709551616 y)] (nA (am 18446744073709551616 (x*y))):=by
 have:=uh (am 18446744073709551616 x) (am 18446744073709551616 y) (show nl x<_ by omega) (show nl y<_ by omega) (an (by omega) _) (an (by omega) _)
 rw [aq (by omega),aq (by omega)] at this
 exact this
theorem AF {n:Int} {g:Nat} (hg:0<g) (h:g ∣ n.natAbs):eX (n / (g:Int))=eX n:=by
 obtain ⟨k,hk⟩:=Int.ofNat_dvd_left.2 h
 rw [hk,Int.mul_ediv_cancel_left _ (by omega)]
 unfold eX
 have h1:(g:Int)*k<0↔k<0:=by
  constructor
  ·intro h; rcases Int.lt_or_le k 0 with h2|h2
   ·exact h2
   ·have:=Int.mul_nonneg (Int.natCast_nonneg g) h2; omega
  ·intro h; exact Int.mul_neg_of_pos_of_neg (by omega) h
 have h2:(g:Int)*k=0↔k=0:=by
  rw [Int.mul_eq_zero]; omega
 simp only [h1,h2]
def cP (x:Rat):Int:=eX x.num
theorem Dp (z:RQ):cP z.val=eX z.num:=by
 unfold cP RQ.val
 rw [sk _ z.den_ne]
 exact AF (Nat.gcd_pos_of_pos_right _ (Nat.pos_iff_ne_zero.2 z.den_ne)) (Nat.gcd_dvd_left _ _)
theorem dO (z:RQ) (hz:z.Ok):ab Tryz.prog 34 [z.av] (.int .i64 (cP z.val)):=by
 rw [Dp]
 have h:=kB ⟨z.neg,z.p⟩ ⟨hz.lenp,hz.limp⟩
 change ab _ _ _ (.int .i64 (eX z.num)) at h
 generalize eX z.num=s at *
 refine Pg Tryz.func34 rfl [.tmp 2] rfl (by simp -implicitDefEqProofs [go_sem]) ?_
 unfold RQ.av ZR.av at *
 simp only at *
 simp -implicitDefEqProofs [go_sem]
 refine ag h ?_
 simp -implicitDefEqProofs [go_sem]
def bW (x y:Rat):Int:=bI (x.num*y.den) (y.num*x.den)
theorem jB (a b:RQ) (ha:a.Sm) (hb:b.Sm):ab Tryz.prog 31 [a.av,b.av] (.int .i64 (bW a.val b.val)):=by
 have ga:=cQ a ha.ok
 have gb:=cQ b hb.ok
 have sa:=gw ha
 have sb:=gw hb
 generalize a.val=x at *
 generalize b.val=y at *
 have:=bA x; have:=bA y; have:=a9 x; have:=a9 y
 have oa:=jy x
 have ob:=jy y
 have m1:=pG x.num y.den (by simp; omega)
 have m2:=pG y.num x.den (by simp; omega)
 have hc:=Ll (x.num*y.den) (y.num*x.den) (by
  have h1:=aZ x.num.natAbs y.den
  have h2:=aZ y.num.natAbs x.den
  rw [Int.natAbs_mul,Int.natAbs_mul]; simp; omega)
 unfold bW
 generalize x.num*y.den=u at *
 generalize y.num*x.den=w at *
 generalize bI u w=c at *
 refine Pg Tryz.func31 rfl [.tmp 4] rfl (by simp -implicitDefEqProofs [go_sem]) ?_
 rw [tc] at oa ob m1 m2
 unfold rA RQ.av qc zA ZR.av zc at *
 simp only at *
 simp -implicitDefEqProofs [go_sem]
 refine aa ga ?_
 simp -implicitDefEqProofs [go_sem]
 refine aa gb ?_
 simp -implicitDefEqProofs [go_sem]
 refine aa ob ?_
 simp -implicitDefEqProofs [go_sem]
 refine aa m1 ?_
 simp -implicitDefEqProofs [go_sem]
 refine aa oa ?_
 simp -implicitDefEqProofs [go_sem]
 refine aa m2 ?_
 simp -implicitDefEqProofs [go_sem]
 refine aa hc ?_
 simp -implicitDefEqProofs [go_sem]
def rZ:AV := .agg [.bool false,.sl 0 true [],.sl 0 true []]
theorem nY (p q:Int):(p:Rat) / (q:Rat)=mkRat (if q<0 then -p else p) q.natAbs:=by
 rw [Rat.mkRat_eq_div]
 split
 ·rename_i h
  have:((q.natAbs:Nat):Rat) = -(q:Rat):=by
   rw [←Rat.intCast_natCast,Int.ofNat_natAbs_of_nonpos (by omega),Rat.intCast_neg]
  rw [this,Rat.intCast_neg]
  grind
 ·rename_i h
  have:((q.natAbs:Nat):Rat)=(q:Rat):=by
   rw [←Rat.intCast_natCast,Int.natAbs_of_nonneg (by omega)]
  rw [this]
theorem qC (p q:Int) (hp:nl p.natAbs+1<1099511627776) (hq:nl q.natAbs<1099511627776) :
 ab Tryz.prog 84 [zA p,zA q] (if q=0 then .tup [rZ,.int .i64 12] else .tup [rA ((p:Rat) / (q:Rat)),.int .i64 0]):=by
 have hs:=H0 q hq
 have hn:=Ge p (by omega)
 have hz:∀x:Int,x.natAbs=p.natAbs→ab Tryz.prog 161 [zA x,.agg [.bool false,.sl 0 true []]] (zA x):=fun x hx=>by
  have:=Gd x 0 (by rw [hx,show (0:Int).natAbs=0 from rfl,ss]; omega)
  rw [Int.add_zero] at this
  refine this.args (.cons (Wk.refl _) (.cons ?_ .nil))
  unfold zA ZR.av zc
  rw [show (0:Int).natAbs=0 from rfl,aP]
  exact Wk.agg (.cons (Wk.refl _) (.cons (Wk.nil 0 1 true) .nil))
 have hm:∀x:Int,x.natAbs=p.natAbs→q≠0→ab Tryz.prog 160 [zA x,nA (am 18446744073709551616 q.natAbs)] (rA (mkRat x q.natAbs)):=fun x hx h0=>Cw x q.natAbs (by rw [hx]; omega) hq (by omega)
 by_cases h0:q=0
 ·rw [if_pos h0]
  subst h0
  unfold eX at hs
  simp only [Int.lt_irrefl,if_false,if_true] at hs
  refine Pg Tryz.func84 rfl [.cell 4 27,.tmp 5] rfl (by simp -implicitDefEqProofs [go_sem,rZ]) ?_
  unfold zA ZR.av zc rZ at *
  simp -implicitDefEqProofs [go_sem]
  refine ag hs ?_
  simp -implicitDefEqProofs [go_sem,aS]
 ·rw [if_neg h0,nY]
  by_cases h1:q<0
  ·rw [if_pos h1]
   have hm1:=hm (-p) (by omega) h0
   have hz1:=hz (-p) (by omega)
   rw [show eX q = -1 by unfold eX; rw [if_pos h1]] at hs
   generalize mkRat (-p) q.natAbs=r at *
   refine Pg Tryz.func84 rfl [.cell 4 27,.tmp 5] rfl (by simp -implicitDefEqProofs [go_sem,cA]) ?_
   clear hz hm
   generalize -p=p2 at *
   unfold zA ZR.av zc rA RQ.av qc at *
   simp only at *
   simp -implicitDefEqProofs [go_sem]
   refine ag hs ?_
   simp -implicitDefEqProofs [go_sem]
   refine ag hn ?_
   simp -implicitDefEqProofs [go_sem]
   refine aa hz1 ?_
   simp -implicitDefEqProofs [go_sem]
   refine aa hm1 ?_
   simp -implicitDefEqProofs [go_sem,aS]
  ·rw [if_neg h1]
   have hm1:=hm p rfl h0
   have hz1:=hz p rfl
   rw [show eX q=1 by unfold eX; rw [if_neg h1,if_neg h0]] at hs
   generalize mkRat p q.natAbs=r at *
   refine Pg Tryz.func84 rfl [.cell 4 27,.tmp 5] rfl (by simp -implicitDefEqProofs [go_sem,cA]) ?_
   clear hz hm
   unfold zA ZR.av zc rA RQ.av qc at *
   simp only at *
   simp -implicitDefEqProofs [go_sem]
   refine ag hs ?_
   simp -implicitDefEqProofs [go_sem]
   refine aa hz1 ?_
   simp -implicitDefEqProofs [go_sem]
   refine aa hm1 ?_
   simp -implicitDefEqProofs [go_sem,aS]
theorem j8 {p:Int} (h : -9223372036854775808≤p∧p≤9223372036854775807):nl p.natAbs≤1:=oO (by omega)
theorem eW (p q:Int) (hp : -9223372036854775808≤p∧p≤9223372036854775807) (hq : -9223372036854775808≤q∧q≤9223372036854775807) (h0:q≠0) :
 ab Tryz.prog 30 [.int .i64 p,.int .i64 q] (rA ((p:Rat) / (q:Rat))):=by
 have h1:=vo p hp
 have h2:=vo q hq
 have hm:=qC p q (by have:=j8 hp; omega) (by have:=j8 hq; omega)
 rw [if_neg h0] at hm
 generalize (p:Rat) / (q:Rat)=r at *
 refine Pg Tryz.func30 rfl [.cell 4 27] rfl (cA _) ?_
 unfold zA ZR.av zc rA RQ.av qc at *
 simp only at *
 simp -implicitDefEqProofs [go_sem]
 refine ag h1 ?_
 simp -implicitDefEqProofs [go_sem]
 refine ag h2 ?_
 simp -implicitDefEqProofs [go_sem]
 refine ag hm ?_
 simp -implicitDefEqProofs [go_sem,aS]
theorem nB (x:Rat):x=(x.num:Rat) / (x.den:Rat):=by
 rw [←Rat.mkRat_eq_div,Rat.mkRat_self]
theorem jC (a b:RQ) (ha:a.Sm) (hb:b.Sm):ab Tryz.prog 130 [a.av,b.av] (if b.val=0 then .tup [rZ,.int .i64 12] else .tup [rA (a.val / b.val),.int .i64 0]):=by
 have ga:=cQ a ha.ok
 have gb:=cQ b hb.ok
 have sa:=gw ha
 have sb:=gw hb
 generalize a.val=x at *
 generalize b.val=y at *
 have:=bA x; have:=bA y; have:=a9 x; have:=a9 y
 have oa:=jy x
 have ob:=jy y
 have m1:=pG x.num y.den (by simp; omega)
 have m2:=pG y.num x.den (by simp; omega)
 have hm:=qC (x.num*y.den) (y.num*x.den) (by
  have h1:=aZ x.num.natAbs y.den
  rw [Int.natAbs_mul]; simp; omega) (by
  have h2:=aZ y.num.natAbs x.den
  rw [Int.natAbs_mul]; simp; omega)
 have hy0:y.num*x.den=0↔y=0:=by
  rw [Int.mul_eq_zero,Rat.num_eq_zero]
  have:=x.den_nz
  constructor
  ·rintro (h|h)
   ·exact h
   ·exact absurd (by omega) this
  ·exact .inl
 have hv:((x.num*y.den:Int):Rat) / ((y.num*x.den:Int):Rat)=x / y:=by
  have h1:x=(x.num:Rat) / (x.den:Rat):=nB x
  have h2:y=(y.num:Rat) / (y.den:Rat):=nB y
  have h3:(x.den:Rat)≠0:=by simpa using x.den_nz
  have h4:(y.den:Rat)≠0:=by simpa using y.den_nz
  rw [Rat.intCast_mul,Rat.intCast_mul,Rat.intCast_natCast,Rat.intCast_natCast]
  conv=>rhs; rw [h1,h2]
  generalize (x.num:Rat)=a at *
  generalize (y.num:Rat)=b at *
  generalize (x.den:Rat)=c at *
  generalize (y.den:Rat)=d at *
  clear h1 h2 m1 m2 hm
  grind
 rw [hv] at hm
 simp only [hy0] at hm
 refine Pg Tryz.func130 rfl [.cell 4 27,.tmp 5] rfl (by split<;>simp -implicitDefEqProofs [go_sem,rZ,cA]) ?_
 clear hy0 hv
 generalize x.num*y.den=u at *
 generalize y.num*x.den=w at *
 rw [tc] at oa ob m1 m2
 have hcs:(if y=0 then AV.tup [rZ,.int .i64 12] else .tup [rA (x / y),.int .i64 0]) = .tup [if y=0 then rZ else rA (x / y),.int .i64 (if y=0 then 12 else 0)]:=by split<;>rfl
 rw [hcs] at hm ⊢
 generalize hR:(if y=0 then rZ else rA (x / y))=R at *
 obtain ⟨r1,s2,t2,l2,s3,t3,l3,hRe⟩:∃r1 s2 t2 l2 s3 t3 l3,R = .agg [.bool r1,.sl s2 t2 (uA .u64 l2),.sl s3 t3 (uA .u64 l3)]:=by
  rw [←hR]; split
  ·exact ⟨_,_,_,[],_,_,[],rfl⟩
  ·exact ⟨_,_,_,_,_,_,_,rfl⟩
 subst hRe
 generalize (if y=0 then (12:Int) else 0)=e at *
 unfold rA RQ.av qc zA ZR.av zc at *
 simp only at *
 simp -implicitDefEqProofs [go_sem]
 refine aa ga ?_
 simp -implicitDefEqProofs [go_sem]
 refine aa gb ?_
 simp -implicitDefEqProofs [go_sem]
 refine aa ob ?_
 simp -implicitDefEqProofs [go_sem]
 refine aa m1 ?_
 simp -implicitDefEqProofs [go_sem]
 refine aa oa ?_
 simp -implicitDefEqProofs [go_sem]
 refine aa m2 ?_
 simp -implicitDefEqProofs [go_sem]
 refine aa hm ?_
 simp -implicitDefEqProofs [go_sem,aS]
theorem CM {x y:Rat} (hx:sz x≤17179869184) (hy:sz y≤17179869184):nl (x.num*y.den+y.num*x.den).natAbs<1099511627776:=by
 have:=bA x; have:=bA y; have:=a9 x; have:=a9 y
 have h1:=aZ x.num.natAbs y.den
 have h2:=aZ y.num.natAbs x.den
 have h4:(x.num*y.den+y.num*x.den).natAbs≤x.num.natAbs*y.den+y.num.natAbs*x.den:=by
  refine Nat.le_trans (Int.natAbs_add_le _ _) ?_
  rw [Int.natAbs_mul,Int.natAbs_mul]; simp
 have h5:=ec h4
 have h6:=oN (x.num.natAbs*y.den) (y.num.natAbs*x.den)
 omega
theorem n_ (x y:Rat) (hx:sz x≤17179869184) (hy:sz y≤17179869184):ab Tryz.prog 258 [rA x,rA y] (rA (x+y)):=by
 have:=bA x; have:=bA y; have:=a9 x; have:=a9 y
 have oa:=jy x
 have ob:=jy y
 have m1:=pG x.num y.den (by simp; omega)
 have m2:=pG y.num x.den (by simp; omega)
 have hs:=Gd (x.num*y.den) (y.num*x.den) (by
  have h1:=aZ x.num.natAbs y.den
  have h2:=aZ y.num.natAbs x.den
  rw [Int.natAbs_mul,Int.natAbs_mul]; simp; omega)
 have hd:=FS x.den y.den (by omega)
 have hm:=Cw (x.num*y.den+y.num*x.den) (x.den*y.den) (CM hx hy) (by have:=aZ x.den y.den; omega) (eB x y)
 rw [←vt] at hm
 generalize x+y=r at *
 generalize x.num*y.den+y.num*x.den=s at *
 generalize x.num*y.den=u at *
 generalize y.num*x.den=w at *
 generalize x.den*y.den=dd at *
 refine Pg Tryz.func258 rfl [.cell 4 27] rfl (cA _) ?_
 rw [tc] at oa ob m1 m2
 unfold rA RQ.av qc zA ZR.av zc at *
 simp only at *
 simp -implicitDefEqProofs [go_sem]
 refine aa ob ?_
 simp -implicitDefEqProofs [go_sem]
 refine aa m1 ?_
 simp -implicitDefEqProofs [go_sem]
 refine aa oa ?_
 simp -implicitDefEqProofs [go_sem]
 refine aa m2 ?_
 simp -implicitDefEqProofs [go_sem]
 refine aa hs ?_
 simp -implicitDefEqProofs [go_sem]
 refine aa hd ?_
 simp -implicitDefEqProofs [go_sem]
 refine aa hm ?_
 simp -implicitDefEqProofs [go_sem,aS]
theorem vX (x y:Rat) (hx:sz x≤17179869184) (hy:sz y≤17179869184):ab Tryz.prog 260 [rA x,rA y] (rA (x*y)):=by
 have:=bA x; have:=bA y; have:=a9 x; have:=a9 y
 have m1:=pG x.num y.num (by omega)
 have hd:=FS x.den y.den (by omega)
 have hm:=Cw (x.num*y.num) (x.den*y.den) (by have:=aZ x.num.natAbs y.num.natAbs; rw [Int.natAbs_mul]; omega) (by have:=aZ x.den y.den; omega) (eB x y)
 rw [←wH] at hm
 generalize x*y=r at *
 generalize x.num*y.num=u at *
 generalize x.den*y.den=dd at *
 refine Pg Tryz.func260 rfl [.cell 4 27] rfl (cA _) ?_
 unfold rA RQ.av qc zA ZR.av zc at *
 simp only at *
 simp -implicitDefEqProofs [go_sem]
 refine aa m1 ?_
 simp -implicitDefEqProofs [go_sem]
 refine aa hd ?_
 simp -implicitDefEqProofs [go_sem]
 refine aa hm ?_
 simp -implicitDefEqProofs [go_sem,aS]
theorem vW (x y:Rat) (hx:sz x≤17179869184) (hy:sz y≤17179869184):ab Tryz.prog 259 [rA x,rA y,.rp [.fn (.func 258) [] []]] (rA (x-y)):=by
 have hn:=Ge y.num (by have:=bA y; omega)
 have ha:=n_ x (-y) hx (by rw [sz_neg]; exact hy)
 rw [←Rat.sub_eq_add_neg] at ha
 generalize x-y=r at *
 refine Pg Tryz.func259 rfl [.cell 5 27] rfl (cA _) ?_
 unfold rA RQ.av qc zA ZR.av zc at *
 rw [Rat.neg_num,Rat.neg_den] at ha
 simp only at *
 generalize -y.num=ny at *
 simp -implicitDefEqProofs [go_sem]
 refine aa hn ?_
 simp -implicitDefEqProofs [go_sem]
 refine aa ha ?_
 simp -implicitDefEqProofs [go_sem,aS]
@[go_sem] theorem Ma (off:Nat) (v:AV):(AV.any).lay off [v]=v:=rfl
theorem Bw (a b:RQ) (ha:a.Sm) (hb:b.Sm):ab Tryz.prog 129 [.int .i64 0,a.av,b.av] (rA (a.val+b.val)):=by
 have ga:=cQ a ha.ok
 have gb:=cQ b hb.ok
 have hs:=n_ a.val b.val (gw ha) (gw hb)
 generalize a.val=x at *
 generalize b.val=y at *
 generalize x+y=r at *
 refine Pg Tryz.func129 rfl [.cell 6 27] rfl (cA _) ?_
 unfold rA RQ.av qc at *
 simp only at *
 simp -implicitDefEqProofs [go_sem]
 refine j_ (sz:=4) (rest:=[.int .u32 0,.sl 0 true []]) (by simp -implicitDefEqProofs [go_sem,qH]) ?_
 refine Cg Tryz.func206 rfl [] rfl ?_
 simp -implicitDefEqProofs [go_sem,iI,k9]
 refine aa ga ?_
 simp -implicitDefEqProofs [go_sem]
 refine aa gb ?_
 simp -implicitDefEqProofs [go_sem]
 refine aa hs ?_
 simp -implicitDefEqProofs [go_sem,aS]
theorem By (a b:RQ) (ha:a.Sm) (hb:b.Sm):ab Tryz.prog 129 [.int .i64 1,a.av,b.av] (rA (a.val-b.val)):=by
 have ga:=cQ a ha.ok
 have gb:=cQ b hb.ok
 have hs:=vW a.val b.val (gw ha) (gw hb)
 generalize a.val=x at *
 generalize b.val=y at *
 generalize x-y=r at *
 refine Pg Tryz.func129 rfl [.cell 6 27] rfl (cA _) ?_
 unfold rA RQ.av qc at *
 simp only at *
 simp -implicitDefEqProofs [go_sem]
 refine j_ (sz:=4) (rest:=[.int .u32 0,.sl 0 true []]) (by simp -implicitDefEqProofs [go_sem,qH]) ?_
 refine Cg Tryz.func206 rfl [] rfl ?_
 simp -implicitDefEqProofs [go_sem,iI,k9]
 refine aa ga ?_
 simp -implicitDefEqProofs [go_sem]
 refine aa gb ?_
 simp -implicitDefEqProofs [go_sem]
 refine tT [4] _ (by kernel_rfl) hs (by simp -implicitDefEqProofs [go_sem]) (by simp -implicitDefEqProofs [go_sem]) (by simp -implicitDefEqProofs [go_sem]) (by simp -implicitDefEqProofs [go_sem]) ?_
 simp -implicitDefEqProofs [go_sem,aS]
theorem Bz (a b:RQ) (ha:a.Sm) (hb:b.Sm):ab Tryz.prog 129 [.int .i64 2,a.av,b.av] (rA (a.val*b.val)):=by
 have ga:=cQ a ha.ok
 have gb:=cQ b hb.ok
 have hs:=vX a.val b.val (gw ha) (gw hb)
 generalize a.val=x at *
 generalize b.val=y at *
 generalize x*y=r at *
 refine Pg Tryz.func129 rfl [.cell 6 27] rfl (cA _) ?_
 unfold rA RQ.av qc at *
 simp only at *
 simp -implicitDefEqProofs [go_sem]
 refine j_ (sz:=4) (rest:=[.int .u32 0,.sl 0 true []]) (by simp -implicitDefEqProofs [go_sem,qH]) ?_
 refine Cg Tryz.func206 rfl [] rfl ?_
 simp -implicitDefEqProofs [go_sem,iI,k9]
 refine aa ga ?_
 simp -implicitDefEqProofs [go_sem]
 refine aa gb ?_
 simp -implicitDefEqProofs [go_sem]
 refine aa hs ?_
 simp -implicitDefEqProofs [go_sem,aS]
theorem gY (a b:RQ) (ha:a.Sm) (hb:b.Sm):ab Tryz.prog 133 [a.av,b.av] (rA (a.val+b.val)):=by
 have h:=Bw a b ha hb
 generalize a.val+b.val=r at *
 refine Pg Tryz.func133 rfl [.cell 4 27] rfl (cA _) ?_
 unfold rA RQ.av qc at *
 simp only at *
 simp -implicitDefEqProofs [go_sem]
 refine ag h ?_
 simp -implicitDefEqProofs [go_sem,aS]
theorem mo (a b:RQ) (ha:a.Sm) (hb:b.Sm):ab Tryz.prog 171 [a.av,b.av] (rA (a.val-b.val)):=by
 have h:=By a b ha hb
 generalize a.val-b.val=r at *
 refine Pg Tryz.func171 rfl [.cell 4 27] rfl (cA _) ?_
 unfold rA RQ.av qc at *
 simp only at *
 simp -implicitDefEqProofs [go_sem]
 refine ag h ?_
 simp -implicitDefEqProofs [go_sem,aS]
theorem eK (a b:RQ) (ha:a.Sm) (hb:b.Sm):ab Tryz.prog 58 [a.av,b.av] (rA (a.val*b.val)):=by
 have h:=Bz a b ha hb
 generalize a.val*b.val=r at *
 refine Pg Tryz.func58 rfl [.cell 4 27] rfl (cA _) ?_
 unfold rA RQ.av qc at *
 simp only at *
 simp -implicitDefEqProofs [go_sem]
 refine ag h ?_
 simp -implicitDefEqProofs [go_sem,aS]
def iA (x:Int):AV := .agg [.bool (decide (x<0)),qA x.natAbs]
theorem oZ (x:Int):ro (iA x):=by unfold iA qA; simp -implicitDefEqProofs [go_sem]
theorem NG (x:Nat):(am 4294967296 x).length≤2*nl x:=by
 refine cj (by omega) ?_
 rw [yv]; exact uj
theorem eU {x:Nat} (h:nl x<549755813888):cf (am 4294967296 x):=by
 unfold cf; have:=NG x; omega
theorem G4 (b:Bool) (x:Nat):iA (ef b x) = .agg [.bool (b && decide (0<x)),qA x]:=by
 unfold iA; simp only [dl,sO]
theorem ui {x:Nat}:decide (0<(am 4294967296 x).length)=decide (0<x):=by
 congr 1
 rw [List.length_pos_iff,ne_eq,aY (by omega),Nat.pos_iff_ne_zero]
theorem eG (neg:Bool) (n:Nat):ab Tryz.prog 156 [.bool neg,qA n] (iA (ef neg n)):=by
 refine Pg Tryz.func156 rfl [.cell 4 43] rfl (oZ _) ?_
 rw [G4]
 have hp:=ui (x:=n)
 unfold qA at *
 simp -implicitDefEqProofs [go_sem,aS]
 refine ⟨fun h=>by rw [hp,h]; rfl,fun h h2=>by rw [h] at h2; cases h2⟩
theorem Cp (z:ZR) (hz:z.Ok):ab Tryz.prog 77 [z.av] (iA z.val):=by
 obtain ⟨neg,n⟩:=z
 have h1:=r_ n hz.len hz.lim
 have h2:=eG neg (lv 18446744073709551616 n)
 unfold ZR.val
 simp only
 generalize ef neg (lv 18446744073709551616 n)=y at *
 generalize lv 18446744073709551616 n=m at *
 refine Pg Tryz.func77 rfl [.cell 2 43] rfl (oZ _) ?_
 unfold ZR.av iA qA at *
 simp only
 simp -implicitDefEqProofs [go_sem]
 refine aa h1 ?_
 simp -implicitDefEqProofs [go_sem]
 refine aa h2 ?_
 simp -implicitDefEqProofs [go_sem,aS]
theorem Ag (x:Int) (h:nl x.natAbs<549755813888):ab Tryz.prog 204 [iA x] (zA x):=by
 have h1:=uu x.natAbs (eU h)
 refine Pg Tryz.func204 rfl [.cell 2 25] rfl (mU _) ?_
 unfold iA zA ZR.av zc qA at *
 simp -implicitDefEqProofs [go_sem]
 refine aa h1 ?_
 simp -implicitDefEqProofs [go_sem,aS]
theorem tZ (v:Int) (h : -9223372036854775808≤v∧v≤9223372036854775807):ab Tryz.prog 137 [.int .i64 v] (iA v):=by
 refine Pg Tryz.func137 rfl [.cell 2 43] rfl (oZ _) ?_
 have hof:=jw v.natAbs (by omega)
 have h1:=eG true v.natAbs
 have h2:=eG false v.natAbs
 unfold qA at *
 simp -implicitDefEqProofs [go_sem]
 refine ⟨fun h0=>?_,fun h0=>?_⟩
 ·have e1:IntKind.u64.wrap (IntKind.u64.wrap (IntKind.i64.wrap (-IntKind.i64.wrap (v+1)))+1)=(v.natAbs:Nat):=by
   rw [bO (x:=v+1) (by omega),bO (by omega),bE (x := -(v+1)) (by omega),bE (by omega)]; omega
  rw [e1]
  have e2:ef true v.natAbs=v:=by unfold ef; simp only [if_true]; omega
  rw [e2] at h1
  refine ag hof ?_
  simp -implicitDefEqProofs [go_sem]
  refine ag h1 ?_
  simp -implicitDefEqProofs [go_sem,aS,iA,qA]
 ·have e1:IntKind.u64.wrap v=(v.natAbs:Nat):=by rw [bE (by omega)]; omega
  rw [e1]
  have e2:ef false v.natAbs=v:=by unfold ef; simp only [Bool.false_eq_true,if_false]; omega
  rw [e2] at h2
  refine ag hof ?_
  simp -implicitDefEqProofs [go_sem]
  refine ag h2 ?_
  simp -implicitDefEqProofs [go_sem,aS,iA,qA]
theorem i6 (x:Int):ab Tryz.prog 247 [iA x] (iA (-x)):=by
 have hm:=eG (!(decide (x<0))) x.natAbs
 rw [yK,lm] at hm
 generalize -x=y at *
 refine Pg Tryz.func247 rfl [.cell 2 43] rfl (oZ _) ?_
 unfold iA qA at *
 generalize hb:decide (x<0)=b at *
 simp -implicitDefEqProofs [go_sem]
 refine ag hm ?_
 simp -implicitDefEqProofs [go_sem,aS]
theorem oC (x:Int):ab Tryz.prog 120 [iA x] (.int .i64 (eX x)):=by
 refine Pg Tryz.func120 rfl [.tmp 2] rfl (by simp -implicitDefEqProofs [go_sem]) ?_
 unfold iA qA
 have hp:am 4294967296 x.natAbs=[]↔x=0:=by rw [aY (by omega)]; omega
 unfold eX
 by_cases h0:x=0
 ·have:=hp.2 h0
  simp -implicitDefEqProofs [go_sem,h0,this]
  exact aP
 ·have h1:¬am 4294967296 x.natAbs=[]:=fun h=>h0 (hp.1 h)
  by_cases h2:x<0
  ·simp -implicitDefEqProofs [go_sem,h0,h1,h2]
  ·simp -implicitDefEqProofs [go_sem,h0,h1,h2]
theorem fB (x y:Int) (hx:nl x.natAbs<549755813888) (hy:nl y.natAbs<549755813888):ab Tryz.prog 135 [iA x,iA y] (iA (x*y)):=by
 have h1:=eJ x.natAbs y.natAbs (eU hx) (eU hy)
 have hm:=eG (decide (x<0) != decide (y<0)) (x.natAbs*y.natAbs)
 rw [sP,lm,lm] at hm
 refine Pg Tryz.func135 rfl [.cell 4 43] rfl (oZ _) ?_
 generalize x*y=z at *
 generalize x.natAbs*y.natAbs=xy at *
 unfold iA qA at *
 generalize decide (x<0)=bx at *
 generalize decide (y<0)=by' at *
 simp -implicitDefEqProofs [go_sem]
 refine aa h1 ?_
 simp -implicitDefEqProofs [go_sem]
 refine aa (show ab Tryz.prog 156 [.bool (!(bx == by')),mA (am 4294967296 xy)] _ from hm) ?_
 simp -implicitDefEqProofs [go_sem,aS]
theorem qq (x y:Int) (hx:nl x.natAbs<549755813888) (hy:nl y.natAbs<549755813888):ab Tryz.prog 255 [iA x,iA y] (iA (x+y)):=by
 have fx:=eU hx
 have fy:=eU hy
 have hadd:=vr x.natAbs y.natAbs fx fy
 have hcmp:=iq x.natAbs y.natAbs fx.x fy.x
 have hsub1:=fun h=>kv x.natAbs y.natAbs fx fy h
 have hsub2:=fun h=>kv y.natAbs x.natAbs fy fx h
 have hmk:=eG
 refine Pg Tryz.func255 rfl [.cell 4 43] rfl (oZ _) ?_
 rcases Decidable.em (x<0↔y<0) with h|h
 ·have hm:=hmk (decide (x<0)) (x.natAbs+y.natAbs)
  rw [show ef (decide (x<0)) (x.natAbs+y.natAbs)=x+y by unfold ef; simp only [decide_eq_true_eq]; split<;>omega] at hm
  generalize x+y=z at *
  generalize x.natAbs+y.natAbs=s at *
  unfold iA qA at *
  simp -implicitDefEqProofs [go_sem,h]
  refine aa hadd ?_
  simp -implicitDefEqProofs [go_sem,h]
  simp only [h] at hm
  refine aa hm ?_
  simp -implicitDefEqProofs [go_sem,aS]
 ·rcases Nat.lt_or_ge x.natAbs y.natAbs with h1|h1
  ·have hc:¬0≤bI x.natAbs y.natAbs:=by rw [dg (by omega)]; omega
   have hm:=hmk (decide (y<0)) (y.natAbs-x.natAbs)
   rw [show ef (decide (y<0)) (y.natAbs-x.natAbs)=x+y by unfold ef; simp only [decide_eq_true_eq]; split<;>omega] at hm
   have hs:=hsub2 (by omega)
   clear hsub1 hsub2 hadd hmk
   generalize x+y=z at *
   generalize y.natAbs-x.natAbs=s at *
   generalize bI x.natAbs y.natAbs=c at *
   unfold iA qA at *
   simp -implicitDefEqProofs [go_sem,h]
   refine ag hcmp ?_
   simp -implicitDefEqProofs [go_sem,hc]
   refine aa hs ?_
   simp -implicitDefEqProofs [go_sem]
   refine aa hm ?_
   simp -implicitDefEqProofs [go_sem,aS]
  ·have hc:0≤bI x.natAbs y.natAbs:=by
    rcases Nat.lt_or_ge y.natAbs x.natAbs with h|h
    ·rw [cJ (by omega)]; omega
    ·rw [show x.natAbs=y.natAbs by omega,eQ]; omega
   have hm:=hmk (decide (x<0)) (x.natAbs-y.natAbs)
   rw [show ef (decide (x<0)) (x.natAbs-y.natAbs)=x+y by unfold ef; simp only [decide_eq_true_eq]; split<;>omega] at hm
   have hs:=hsub1 h1
   clear hsub1 hsub2 hadd hmk
   generalize x+y=z at *
   generalize x.natAbs-y.natAbs=s at *
   generalize bI x.natAbs y.natAbs=c at *
   unfold iA qA at *
   simp -implicitDefEqProofs [go_sem,h]
   refine ag hcmp ?_
   simp -implicitDefEqProofs [go_sem,hc]
   refine aa hs ?_
   simp -implicitDefEqProofs [go_sem]
   refine aa hm ?_
   simp -implicitDefEqProofs [go_sem,aS]
theorem Ah (x y:Int) (hx:nl x.natAbs<549755813888) (hy:nl y.natAbs<549755813888):ab Tryz.prog 207 [iA x,iA y] (iA (x-y)):=by
 have hn:=i6 y
 have ha:=qq x (-y) hx (by rw [Int.natAbs_neg]; exact hy)
 rw [←Int.sub_eq_add_neg] at ha
 generalize x-y=z at *
 generalize -y=w at *
 refine Pg Tryz.func207 rfl [.cell 4 43] rfl (oZ _) ?_
 unfold iA qA at *
 simp -implicitDefEqProofs [go_sem]
 refine aa hn ?_
 simp -implicitDefEqProofs [go_sem]
 refine aa ha ?_
 simp -implicitDefEqProofs [go_sem,aS]
theorem Ad (x y:Int) (hx:nl x.natAbs<549755813888) (hy:nl y.natAbs<549755813888):ab Tryz.prog 134 [iA x,iA y] (.int .i64 (bI x y)):=by
 have hs:=Ah x y hx hy
 have hg:=oC (x-y)
 rw [uR] at hg
 generalize x-y=z at *
 generalize bI x y=c at *
 refine Pg Tryz.func134 rfl [.tmp 4] rfl (by simp -implicitDefEqProofs [go_sem]) ?_
 unfold iA qA at *
 simp -implicitDefEqProofs [go_sem]
 refine ag hs ?_
 simp -implicitDefEqProofs [go_sem]
 refine ag hg ?_
 simp -implicitDefEqProofs [go_sem]
@[go_sem] theorem IC (a:AV) (l:List AV):bk (a::l) 0=a:=rfl
def fA (x:Rat):AV := .agg [.bool (decide (x.num<0)),qA x.num.natAbs,qA x.den]
theorem fU (x:Rat):ro (fA x):=by unfold fA qA; simp -implicitDefEqProofs [go_sem]
theorem fO (p:Int) (q:Nat) (hp:nl p.natAbs<549755813888) (hq:nl q<549755813888) (h0:q≠0):ab Tryz.prog 76 [iA p,qA q] (fA (mkRat p q)):=by
 have hg:=vZ p.natAbs q (eU hp) (eU hq)
 obtain ⟨g,hgg⟩:∃g,g=Nat.gcd p.natAbs q:=⟨_,rfl⟩
 have hg0:g≠0:=by rw [hgg]; exact Nat.gcd_ne_zero_right h0
 have hgl:g≤q:=by rw [hgg]; exact Nat.le_of_dvd (Nat.pos_iff_ne_zero.2 h0) (Nat.gcd_dvd_right _ _)
 have hgf:cf (am 4294967296 g):=eU (Nat.lt_of_le_of_lt (ec hgl) hq)
 have hd1:=gt p.natAbs g (eU hp) hgf (by omega)
 have hd2:=gt q g (eU hq) hgf (by omega)
 have hgp:g ∣ p.natAbs:=by rw [hgg]; exact Nat.gcd_dvd_left _ _
 have hn:(mkRat p q).num=ef (decide (p<0)) (p.natAbs / g):=by
  rw [sk _ h0,←hgg,yJ _ hgp,lm]
 have hdn:(mkRat p q).den=q / g:=by rw [wE _ h0,←hgg]
 have hneg:decide (ef (decide (p<0)) (p.natAbs / g)<0)=decide (p<0):=by
  rw [sO]
  by_cases h:p<0
  ·have:0<p.natAbs / g:=Nat.div_pos (Nat.le_of_dvd (by omega) hgp) (by omega)
   simp [h,this]
  ·simp [h]
 rw [←hgg] at hg
 refine Pg Tryz.func76 rfl [.cell 4 45] rfl (fU _) ?_
 unfold fA
 rw [hn,hdn,hneg,dl]
 clear hn hdn hneg
 by_cases h1:g=1
 ·rw [h1,Nat.div_one,Nat.div_one]
  rw [h1] at hg
  clear hd1 hd2
  unfold iA qA at *
  rw [dK (B:=4294967296) (n:=1) (by omega) (by omega) (by omega)] at hg
  generalize am 4294967296 p.natAbs=P at *
  generalize am 4294967296 q=Q at *
  simp -implicitDefEqProofs [go_sem]
  refine ag hg ?_
  simp -implicitDefEqProofs [go_sem,aS]
 ·generalize p.natAbs / g=pg at *
  generalize p.natAbs%g=pr at *
  generalize q / g=qg at *
  generalize q%g=qr at *
  unfold iA qA at *
  by_cases h2:g<4294967296
  ·rw [dK (B:=4294967296) (by omega) hg0 h2] at hg hd1 hd2
   clear hgf hgl hgp hgg
   have h1i:¬(g:Int)=1:=by omega
   simp -implicitDefEqProofs [go_sem]
   refine ag hg ?_
   simp -implicitDefEqProofs [go_sem,h1i]
   refine aa hd1 ?_
   simp -implicitDefEqProofs [go_sem]
   refine aa hd2 ?_
   simp -implicitDefEqProofs [go_sem,aS]
  ·have hlen:¬(am 4294967296 g).length=1:=fun h=>by
    have h3:=cq (an (B:=4294967296) (by omega) g)
    rw [h,aq (by omega)] at h3
    exact h2 (by simpa using h3)
   have hne:¬am 4294967296 g=[]:=fun h=>hg0 ((aY (by omega)).1 h)
   generalize am 4294967296 g=G at *
   have hlen2:¬(G.length:Int)=1:=by omega
   simp -implicitDefEqProofs [go_sem]
   refine ag hg ?_
   simp -implicitDefEqProofs [go_sem,hlen2,hne]
   refine aa hd1 ?_
   simp -implicitDefEqProofs [go_sem]
   refine aa hd2 ?_
   simp -implicitDefEqProofs [go_sem,aS]
theorem BF (z:RQ) (hz:z.Ok) (hp:nl z.num.natAbs<549755813888) (hq:nl z.den<549755813888):ab Tryz.prog 19 [z.av] (fA z.val):=by
 have h1:=r_ z.q hz.lenq hz.limq
 have h2:=Cp ⟨z.neg,z.p⟩ ⟨hz.lenp,hz.limp⟩
 have h3:=jw 1 (by omega)
 have hm:=fO z.num z.den hp hq z.den_ne
 change ab _ _ _ (iA z.num) at h2
 change ab _ _ _ (fA z.val) at hm
 have hd:z.den=if lv 18446744073709551616 z.q=0 then 1 else lv 18446744073709551616 z.q:=rfl
 generalize z.val=v at *
 generalize z.num=n at *
 generalize z.den=d at *
 refine Pg Tryz.func19 rfl [.cell 2 45] rfl (fU _) ?_
 unfold RQ.av ZR.av fA iA qA at *
 simp only at *
 by_cases h0:lv 18446744073709551616 z.q=0
 ·rw [if_pos h0] at hd
  subst hd
  rw [h0,aP] at h1
  generalize am 4294967296 1=o at *
  simp -implicitDefEqProofs [go_sem]
  refine ag h1 ?_
  simp -implicitDefEqProofs [go_sem]
  refine ag h3 ?_
  simp -implicitDefEqProofs [go_sem]
  refine ag h2 ?_
  simp -implicitDefEqProofs [go_sem]
  refine ag hm ?_
  simp -implicitDefEqProofs [go_sem,aS]
 ·rw [if_neg h0] at hd
  have hne:¬am 4294967296 d=[]:=fun h=>h0 (by rw [←hd]; exact (aY (by omega)).1 h)
  rw [←hd] at h1
  generalize am 4294967296 d=D at *
  simp -implicitDefEqProofs [go_sem]
  refine ag h1 ?_
  simp -implicitDefEqProofs [go_sem,hne]
  refine ag h2 ?_
  simp -implicitDefEqProofs [go_sem]
  refine ag hm ?_
  simp -implicitDefEqProofs [go_sem,aS]
theorem qk (x:Rat) (h:sz x<549755813888):ab Tryz.prog 126 [fA x] (rA x):=by
 have:=bA x; have:=a9 x
 have h1:=Ag x.num (by omega)
 have h2:=uu x.den (eU (by omega))
 have hne:¬am 18446744073709551616 x.den=[]:=fun h=>x.den_nz ((aY (by omega)).1 h)
 refine Pg Tryz.func126 rfl [.cell 2 27] rfl (cA _) ?_
 unfold rA RQ.av qc fA iA zA ZR.av zc qA at *
 simp only at *
 generalize am 18446744073709551616 x.den=D at *
 simp -implicitDefEqProofs [go_sem]
 refine ag h2 ?_
 simp -implicitDefEqProofs [go_sem,hne]
 refine ag h1 ?_
 simp -implicitDefEqProofs [go_sem,aS]
theorem dQ (x:Rat):ab Tryz.prog 136 [fA x] (iA (x.den:Int)):=by
 have hne:¬am 4294967296 x.den=[]:=fun h=>x.den_nz ((aY (by omega)).1 h)
 have hi:iA (x.den:Int) = .agg [.bool false,qA x.den]:=by
  unfold iA
  have h:decide ((x.den:Int)<0)=false:=by simp
  rw [h]; rfl
 rw [hi]
 refine Pg Tryz.func136 rfl [.cell 2 43] rfl (by simp -implicitDefEqProofs [go_sem,qA]) ?_
 unfold fA qA at *
 generalize am 4294967296 x.den=D at *
 simp -implicitDefEqProofs [go_sem,hne,aS]
theorem rX (n:Nat):iA (n:Int) = .agg [.bool false,qA n]:=by
 unfold iA
 have h:decide ((n:Int)<0)=false:=by simp
 rw [h]; rfl
theorem cZ (x:Rat):ab Tryz.prog 50 [fA x] (.int .i64 (cP x)):=by
 have h:=oC x.num
 unfold cP
 generalize eX x.num=s at *
 refine Pg Tryz.func50 rfl [.tmp 2] rfl (by simp -implicitDefEqProofs [go_sem]) ?_
 unfold fA iA qA at *
 simp -implicitDefEqProofs [go_sem]
 refine ag h ?_
 simp -implicitDefEqProofs [go_sem]
theorem dh (x y:Rat) (hx:sz x≤17179869184) (hy:sz y≤17179869184):ab Tryz.prog 63 [fA x,fA y] (.int .i64 (bW x y)):=by
 have:=bA x; have:=bA y; have:=a9 x; have:=a9 y
 have dx:=dQ x
 have dy:=dQ y
 have m1:=fB x.num y.den (by omega) (by simp; omega)
 have m2:=fB y.num x.den (by omega) (by simp; omega)
 have hc:=Ad (x.num*y.den) (y.num*x.den) (by
  have h1:=aZ x.num.natAbs y.den
  rw [Int.natAbs_mul]; simp; omega) (by
  have h1:=aZ y.num.natAbs x.den
  rw [Int.natAbs_mul]; simp; omega)
 unfold bW
 generalize x.num*y.den=u at *
 generalize y.num*x.den=w at *
 generalize bI u w=c at *
 rw [rX] at dx dy m1 m2
 refine Pg Tryz.func63 rfl [.tmp 4] rfl (by simp -implicitDefEqProofs [go_sem]) ?_
 unfold fA iA qA at *
 simp -implicitDefEqProofs [go_sem]
 refine aa dy ?_
 simp -implicitDefEqProofs [go_sem]
 refine aa m1 ?_
 simp -implicitDefEqProofs [go_sem]
 refine aa dx ?_
 simp -implicitDefEqProofs [go_sem]
 refine aa m2 ?_
 simp -implicitDefEqProofs [go_sem]
 refine aa hc ?_
 simp -implicitDefEqProofs [go_sem]
theorem cD (x y:Rat) (hx:sz x≤17179869184) (hy:sz y≤17179869184):ab Tryz.prog 119 [fA x,fA y] (fA (x*y)):=by
 have:=bA x; have:=bA y; have:=a9 x; have:=a9 y
 have dx:=dQ x
 have dy:=dQ y
 have m1:=fB x.num y.num (by omega) (by omega)
 have m2:=eJ x.den y.den (eU (by omega)) (eU (by omega))
 have hm:=fO (x.num*y.num) (x.den*y.den) (by
  have h1:=aZ x.num.natAbs y.num.natAbs
  rw [Int.natAbs_mul]; omega) (by
  have h1:=aZ x.den y.den
  omega) (eB x y)
 rw [←wH] at hm
 generalize x*y=r at *
 generalize x.num*y.num=u at *
 generalize x.den*y.den=d at *
 rw [rX] at dx dy
 refine Pg Tryz.func119 rfl [.cell 4 45] rfl (fU _) ?_
 unfold fA iA qA at *
 simp -implicitDefEqProofs [go_sem]
 refine aa m1 ?_
 simp -implicitDefEqProofs [go_sem]
 refine aa dx ?_
 simp -implicitDefEqProofs [go_sem]
 refine aa dy ?_
 simp -implicitDefEqProofs [go_sem]
 refine aa m2 ?_
 simp -implicitDefEqProofs [go_sem]
 refine aa hm ?_
 simp -implicitDefEqProofs [go_sem,aS]
theorem eF (x y:Rat) (hx:sz x≤17179869184) (hy:sz y≤17179869184):ab Tryz.prog 199 [fA x,fA y] (fA (x+y)):=by
 have:=bA x; have:=bA y; have:=a9 x; have:=a9 y
 have dx:=dQ x
 have dy:=dQ y
 have m1:=fB x.num y.den (by omega) (by simp; omega)
 have m2:=fB y.num x.den (by omega) (by simp; omega)
 have h1:=aZ x.num.natAbs y.den
 have h2:=aZ y.num.natAbs x.den
 have ha:=qq (x.num*y.den) (y.num*x.den) (by rw [Int.natAbs_mul]; simp; omega) (by rw [Int.natAbs_mul]; simp; omega)
 have m3:=eJ x.den y.den (eU (by omega)) (eU (by omega))
 have hm:=fO (x.num*y.den+y.num*x.den) (x.den*y.den) (by
  have h4:(x.num*y.den+y.num*x.den).natAbs≤x.num.natAbs*y.den+y.num.natAbs*x.den:=by
   refine Nat.le_trans (Int.natAbs_add_le _ _) ?_
   rw [Int.natAbs_mul,Int.natAbs_mul]; simp
  have h5:=ec h4
  have h6:=oN (x.num.natAbs*y.den) (y.num.natAbs*x.den)
  omega) (by
  have h1:=aZ x.den y.den
  omega) (eB x y)
 rw [←vt] at hm
 clear h1 h2
 generalize x+y=r at *
 generalize x.num*y.den+y.num*x.den=s at *
 generalize x.num*y.den=u at *
 generalize y.num*x.den=w at *
 generalize x.den*y.den=d at *
 rw [rX] at dx dy m1 m2
 refine Pg Tryz.func199 rfl [.cell 4 45] rfl (fU _) ?_
 unfold fA iA qA at *
 simp -implicitDefEqProofs [go_sem]
 refine aa dy ?_
 simp -implicitDefEqProofs [go_sem]
 refine aa m1 ?_
 simp -implicitDefEqProofs [go_sem]
 refine aa dx ?_
 simp -implicitDefEqProofs [go_sem]
 refine aa m2 ?_
 simp -implicitDefEqProofs [go_sem]
 refine aa ha ?_
 simp -implicitDefEqProofs [go_sem]
 refine aa dx ?_
 simp -implicitDefEqProofs [go_sem]
 refine aa dy ?_
 simp -implicitDefEqProofs [go_sem]
 refine aa m3 ?_
 simp -implicitDefEqProofs [go_sem]
 refine aa hm ?_
 simp -implicitDefEqProofs [go_sem,aS]
theorem jp {x y:Rat}:bW x y<0↔x<y:=by
 unfold bW
 rw [Rat.lt_iff]
 constructor
 ·intro h
  rcases Int.lt_or_le (x.num*y.den) (y.num*x.den) with h1|h1
  ·exact h1
  ·exfalso
   unfold bI at h
   rw [if_neg (by omega)] at h
   split at h<;>omega
 ·intro h; rw [dg h]; omega
theorem dG {x y:Rat}:0<bW x y↔y<x:=by
 unfold bW
 rw [Rat.lt_iff]
 constructor
 ·intro h
  rcases Int.lt_or_le (y.num*x.den) (x.num*y.den) with h1|h1
  ·exact h1
  ·exfalso
   unfold bI at h
   split at h
   ·omega
   ·split at h<;>omega
 ·intro h; rw [cJ h]; omega
theorem rF {x y:Rat}:bW x y=0↔x=y:=by
 constructor
 ·intro h
  have h1:¬x<y:=fun h1=>by have:=jp.2 h1; omega
  have h2:¬y<x:=fun h2=>by have:=dG.2 h2; omega
  grind
 ·intro h
  have h1:¬bW x y<0:=fun h1=>by have:=jp.1 h1; grind
  have h2:¬0<bW x y:=fun h1=>by have:=dG.1 h1; grind
  omega
theorem nG {x:Rat}:cP x<0↔x<0:=by
 unfold cP eX
 rw [Rat.lt_iff]
 simp
 split
 ·simp_all
 ·split<;>simp_all
theorem Fg {x:Rat}:cP x=0↔x=0:=by
 unfold cP eX
 rw [←Rat.num_eq_zero]
 split
 ·constructor<;>intro h<;>omega
 ·split<;>simp_all
theorem nF {x:Rat}:0<cP x↔0<x:=by
 have h1 := @nG x
 have h2 := @Fg x
 constructor
 ·intro h
  have:¬x<0:=fun h3=>by have:=h1.2 h3; omega
  have:¬x=0:=fun h3=>by have:=h2.2 h3; omega
  grind
 ·intro h
  have:¬cP x<0:=fun h3=>by have:=h1.1 h3; grind
  have:¬cP x=0:=fun h3=>by have:=h2.1 h3; grind
  omega
theorem bS (p q:Int) (hp : -9223372036854775808≤p∧p≤9223372036854775807) (hq : -9223372036854775808≤q∧q≤9223372036854775807) (h0:q≠0) :
 ab Tryz.prog 64 [.int .i64 p,.int .i64 q] (fA ((p:Rat) / (q:Rat))):=by
 have h1:=tZ p hp
 have h2:=tZ q hq
 have hsg:(if q<0 then -p else p)=ef (decide (p<0) != decide (q<0)) p.natAbs:=by
  unfold ef
  by_cases h3:p<0<;>by_cases h4:q<0<;>simp [h3,h4]<;>omega
 have hneg:decide (ef (decide (p<0) != decide (q<0)) p.natAbs<0)=((decide (p<0) != decide (q<0)) && decide (0<(am 4294967296 p.natAbs).length)):=by
  rw [sO,ui]
 have hm:=fO (if q<0 then -p else p) q.natAbs (by have:=j8 hp; rw [show (if q<0 then -p else p).natAbs=p.natAbs by split<;>omega]; omega) (by have:=j8 hq; omega) (by omega)
 rw [←nY] at hm
 rw [hsg] at hm
 generalize (p:Rat) / (q:Rat)=r at *
 refine Pg Tryz.func64 rfl [.cell 4 45] rfl (fU _) ?_
 unfold fA iA qA at *
 rw [hneg,dl] at hm
 clear hneg hsg
 simp -implicitDefEqProofs [go_sem,h0]
 refine ag h1 ?_
 simp -implicitDefEqProofs [go_sem]
 refine ag h2 ?_
 simp -implicitDefEqProofs [go_sem]
 refine ⟨fun h=>?_,fun h=>?_⟩
 ·have hb:(decide (p<0) != decide (q<0))=true:=by
   by_cases h3:p<0<;>by_cases h4:q<0<;>simp [h3,h4] at h ⊢
  rw [hb,Bool.true_and] at hm
  refine ag hm ?_
  simp -implicitDefEqProofs [go_sem,aS]
 ·have hb:(decide (p<0) != decide (q<0))=false:=by
   by_cases h3:p<0<;>by_cases h4:q<0<;>simp [h3,h4] at h ⊢
  rw [hb,Bool.false_and] at hm
  refine ag hm ?_
  simp -implicitDefEqProofs [go_sem,aS]
theorem qe (x:Rat):ab Tryz.prog 66 [fA x] (fA x.abs):=by
 have h1:x.abs.num=(x.num.natAbs:Int):=by
  unfold Rat.abs
  split
  ·have:=Rat.num_nonneg.2 (by assumption:0≤x); omega
  ·rename_i h
   have:¬0≤x.num:=fun h2=>h (Rat.num_nonneg.1 h2)
   rw [Rat.neg_num]; omega
 have h2:x.abs.den=x.den:=by
  unfold Rat.abs; split
  ·rfl
  ·exact Rat.neg_den _
 refine Pg Tryz.func66 rfl [.cell 2 45] rfl (fU _) ?_
 unfold fA qA
 rw [h1,h2]
 have h3:decide ((x.num.natAbs:Int)<0)=false:=by simp
 rw [h3,Int.natAbs_natCast]
 simp -implicitDefEqProofs [go_sem,aS]
theorem sQ (z:RQ) (m:Nat):ab Tryz.prog 62 [z.av,.int .i64 m] (.bool (decide (z.p.length≤m∧z.q.length≤m))):=by
 refine Pg Tryz.func62 rfl [.tmp 4] rfl (by simp -implicitDefEqProofs [go_sem]) ?_
 unfold RQ.av
 simp -implicitDefEqProofs [go_sem]
 exact ⟨fun h _=>h,fun h1 h2=>by omega⟩
structure HR where
 x:RQ
 y:RQ
 w:RQ
structure HQ where
 x:Rat
 y:Rat
 w:Rat
def HR.av (h:HR):AV := .agg [.bool h.x.neg,nA h.x.p,nA h.x.q,.bool h.y.neg,nA h.y.p,nA h.y.q,.bool h.w.neg,nA h.w.p,nA h.w.q]
def HR.val (h:HR):HQ:=⟨h.x.val,h.y.val,h.w.val⟩
def hc (h:HQ):HR:=⟨qc h.x,qc h.y,qc h.w⟩
def hA (h:HQ):AV:=(hc h).av
theorem rV (h:HQ):(hc h).val=h:=by unfold HR.val hc; simp only [cd]
def hL (l:List HR):AV := .sl 9 false (l.map HR.av)
theorem oY (h:HR):ro h.av:=by unfold HR.av; simp -implicitDefEqProofs [go_sem]
theorem Dl (l:List HR):ro (hL l):=by unfold hL; simp only [ro]; exact bC oY
@[go_sem] theorem sK (l:List HR):roL (l.map HR.av):=bC oY
@[go_sem] theorem Mt (rn:Nat→Nat) (l:List HR):renL rn (l.map HR.av)=l.map HR.av:=renL_ro rn _ (sK l)
@[go_sem] theorem LG (n:Nat) (l:List HR):cloL n (l.map HR.av):=cloL_ro _ (sK l)
@[go_sem] theorem J2 (f:Nat→BS) (l:List HR):fitsL f (l.map HR.av):=fitsL_ro f _ (sK l)
@[go_sem] theorem Lc (f:Nat→BS) (l:List HR):viewL f (l.map HR.av)=l.map HR.av:=viewL_ro f _ (sK l)
theorem nv {l:List HR} {i:Nat} (h:i<l.length):bk (l.map HR.av) (i:Int)=(l[i]).av:=by
 simp [bk,List.getD_eq_getElem?_getD,h]
def HQ.sz (h:HQ):Nat:=max (Go.Proofs.YtdnmfaljidjijaaGreat.sz h.x) (max (Go.Proofs.YtdnmfaljidjijaaGreat.sz h.y) (Go.Proofs.YtdnmfaljidjijaaGreat.sz h.w))
structure RQ.In (n:Nat) (z:RQ):Prop where
 lp:z.p.length≤n
 limp:bu 18446744073709551616 z.p
 lq:z.q.length≤n
 limq:bu 18446744073709551616 z.q
theorem RQ.In.sm {n:Nat} {z:RQ} (h:z.In n) (hn:n≤17179869184:=by omega):z.Sm:=⟨Nat.le_trans h.lp hn,h.limp,Nat.le_trans h.lq hn,h.limq⟩
theorem RQ.In.mono {n m:Nat} {z:RQ} (h:z.In n) (hn:n≤m:=by omega):z.In m:=⟨Nat.le_trans h.lp hn,h.limp,Nat.le_trans h.lq hn,h.limq⟩
theorem RQ.In.sz {n:Nat} {z:RQ} (h:z.In n) (hn:1≤n:=by omega):Go.Proofs.YtdnmfaljidjijaaGreat.sz z.val≤n:=by
 have h1:=pq z.num z.den_ne
 have h2:nl z.num.natAbs≤z.p.length:=by unfold RQ.num; rw [dl]; exact qF h.limp
 have h3:nl z.den≤max 1 z.q.length:=by
  unfold RQ.den; split
  ·rw [je]; omega
  ·have:=qF h.limq; omega
 have:=h.lp
 have:=h.lq
 unfold RQ.val
 omega
theorem gh {n:Nat} {x:Rat} (h:sz x≤n):(qc x).In n:=⟨Nat.le_trans (bA x) h,an (by omega) _,Nat.le_trans (a9 x) h,an (by omega) _⟩
structure PR where
 x:RQ
 y:RQ
structure PQ where
 x:Rat
 y:Rat
def PR.av (p:PR):AV := .agg [.bool p.x.neg,nA p.x.p,nA p.x.q,.bool p.y.neg,nA p.y.p,nA p.y.q]
def PR.val (p:PR):PQ:=⟨p.x.val,p.y.val⟩
def pc (p:PQ):PR:=⟨qc p.x,qc p.y⟩
def pA (p:PQ):AV:=(pc p).av
theorem bJ (p:PQ):(pc p).val=p:=by unfold PR.val pc; simp only [cd]
theorem jQ (p:PR):ro p.av:=by unfold PR.av; simp -implicitDefEqProofs [go_sem]
theorem ji (p:PQ):ro (pA p):=jQ _
structure PR.In (n:Nat) (p:PR):Prop where
 x:p.x.In n
 y:p.y.In n
def PQ.sz (p:PQ):Nat:=max (Go.Proofs.YtdnmfaljidjijaaGreat.sz p.x) (Go.Proofs.YtdnmfaljidjijaaGreat.sz p.y)
theorem cF {n:Nat} {p:PQ} (h:p.sz≤n):(pc p).In n:=⟨gh (Nat.le_trans (Nat.le_max_left _ _) h),gh (Nat.le_trans (Nat.le_max_right _ _) h)⟩
theorem PR.In.mono {n m:Nat} {z:PR} (h:z.In n) (hn:n≤m:=by omega):z.In m:=⟨h.x.mono hn,h.y.mono hn⟩
theorem lK (g:FuncId) (cap:List AV) (p q:PR) (rx ry:Rat) (hc:roL cap) (h1:ab Tryz.prog g (p.x.av::q.x.av::cap) (rA rx)) (h2:ab Tryz.prog g (p.y.av::q.y.av::cap) (rA ry)) :
 ab Tryz.prog 172 [p.av,q.av,.fn (.func g) [] cap] (pA ⟨rx,ry⟩):=by
 refine Pg Tryz.func172 rfl [.cell 6 72] rfl (ji _) ?_
 unfold pA PR.av pc rA RQ.av at *
 simp only at *
 generalize qc rx=cx at *
 generalize qc ry=cy at *
 simp -implicitDefEqProofs [go_sem]
 refine aC _ h1 (by simp [go_sem,hc]) ?_
 simp -implicitDefEqProofs [go_sem]
 refine aC _ h2 (by simp [go_sem,hc]) ?_
 simp -implicitDefEqProofs [go_sem,aS]
def PQ.add (p q:PQ):PQ:=⟨p.x+q.x,p.y+q.y⟩
def PQ.sub (p q:PQ):PQ:=⟨p.x-q.x,p.y-q.y⟩
def PQ.scale (p:PQ) (k:Rat):PQ:=⟨p.x*k,p.y*k⟩
def PQ.mix (p q:PQ) (t:Rat):PQ:=p.add ((q.sub p).scale t)
def PQ.dot (p q:PQ):Rat:=p.x*q.x+p.y*q.y
def PQ.cross (p q:PQ):Rat:=p.x*q.y-p.y*q.x
theorem jz (p q:PR) (hp:p.In 17179869184) (hq:q.In 17179869184):ab Tryz.prog 97 [p.av,q.av] (pA (p.val.add q.val)):=by
 have h:=lK 133 [] p q _ _ (by simp -implicitDefEqProofs [go_sem]) (gY p.x q.x hp.x.sm hq.x.sm) (gY p.y q.y hp.y.sm hq.y.sm)
 change ab _ _ _ (pA (p.val.add q.val)) at h
 generalize p.val.add q.val=r at *
 refine Pg Tryz.func97 rfl [.cell 4 72] rfl (ji _) ?_
 unfold pA PR.av at *
 generalize pc r=cr at *
 simp -implicitDefEqProofs [go_sem]
 refine ag h ?_
 simp -implicitDefEqProofs [go_sem,aS]
theorem fE (p q:PR) (hp:p.In 17179869184) (hq:q.In 17179869184):ab Tryz.prog 125 [p.av,q.av] (pA (p.val.sub q.val)):=by
 have h:=lK 171 [] p q _ _ (by simp -implicitDefEqProofs [go_sem]) (mo p.x q.x hp.x.sm hq.x.sm) (mo p.y q.y hp.y.sm hq.y.sm)
 change ab _ _ _ (pA (p.val.sub q.val)) at h
 generalize p.val.sub q.val=r at *
 refine Pg Tryz.func125 rfl [.cell 4 72] rfl (ji _) ?_
 unfold pA PR.av at *
 generalize pc r=cr at *
 simp -implicitDefEqProofs [go_sem]
 refine ag h ?_
 simp -implicitDefEqProofs [go_sem,aS]
def RQ.cells (z:RQ):List AV:=[.bool z.neg,nA z.p,nA z.q]
theorem mW (a b k:RQ) (ha:a.In 17179869184) (hk:k.In 17179869184):ab Tryz.prog 202 [a.av,b.av,.rp k.cells] (rA (a.val*k.val)):=by
 have h:=eK a k ha.sm hk.sm
 generalize a.val*k.val=r at *
 refine Pg Tryz.func202 rfl [.cell 5 27] rfl (cA _) ?_
 unfold RQ.cells rA RQ.av at *
 generalize qc r=cr at *
 simp -implicitDefEqProofs [go_sem]
 refine ag h ?_
 simp -implicitDefEqProofs [go_sem,aS]
theorem gg (p:PR) (k:RQ) (hp:p.In 17179869184) (hk:k.In 17179869184):ab Tryz.prog 124 [p.av,k.av] (pA (p.val.scale k.val)):=by
 have h:=lK 202 [.rp k.cells] p p _ _ (by simp -implicitDefEqProofs [go_sem,RQ.cells]) (mW p.x p.x k hp.x hk) (mW p.y p.y k hp.y hk)
 change ab _ _ _ (pA (p.val.scale k.val)) at h
 generalize p.val.scale k.val=r at *
 refine Pg Tryz.func124 rfl [.cell 4 72] rfl (ji _) ?_
 unfold pA PR.av RQ.cells RQ.av at *
 generalize pc r=cr at *
 simp -implicitDefEqProofs [go_sem]
 refine bT [1] _ h (by simp -implicitDefEqProofs [go_sem]) (by simp -implicitDefEqProofs [go_sem]) (by simp -implicitDefEqProofs [go_sem]) (by simp -implicitDefEqProofs [go_sem]) ?_
 simp -implicitDefEqProofs [go_sem,aS]
theorem PQ.sz_x (p:PQ):Go.Proofs.YtdnmfaljidjijaaGreat.sz p.x≤p.sz:=Nat.le_max_left _ _
theorem PQ.sz_y (p:PQ):Go.Proofs.YtdnmfaljidjijaaGreat.sz p.y≤p.sz:=Nat.le_max_right _ _
theorem PR.In.sz {n:Nat} {z:PR} (h:z.In n) (hn:1≤n:=by omega):z.val.sz≤n:=Nat.max_le.2 ⟨h.x.sz hn,h.y.sz hn⟩
theorem PQ.sz_add (p q:PQ):(p.add q).sz≤p.sz+q.sz+1:=by
 have:=Go.Proofs.YtdnmfaljidjijaaGreat.sz_add p.x q.x; have:=Go.Proofs.YtdnmfaljidjijaaGreat.sz_add p.y q.y
 have:=p.sz_x; have:=p.sz_y; have:=q.sz_x; have:=q.sz_y
 refine Nat.max_le.2 ⟨?_,?_⟩<;>simp only [PQ.add]<;>omega
theorem PQ.sz_sub (p q:PQ):(p.sub q).sz≤p.sz+q.sz+1:=by
 have:=Go.Proofs.YtdnmfaljidjijaaGreat.sz_sub p.x q.x; have:=Go.Proofs.YtdnmfaljidjijaaGreat.sz_sub p.y q.y
 have:=p.sz_x; have:=p.sz_y; have:=q.sz_x; have:=q.sz_y
 refine Nat.max_le.2 ⟨?_,?_⟩<;>simp only [PQ.sub]<;>omega
theorem PQ.sz_scale (p:PQ) (k:Rat):(p.scale k).sz≤p.sz+Go.Proofs.YtdnmfaljidjijaaGreat.sz k:=by
 have:=ce p.x k; have:=ce p.y k
 have:=p.sz_x; have:=p.sz_y
 refine Nat.max_le.2 ⟨?_,?_⟩<;>simp only [PQ.scale]<;>omega
theorem Ay (p q:PR) (t:RQ) (hp:p.In 1073741824) (hq:q.In 1073741824) (ht:t.In 1073741824):ab Tryz.prog 55 [p.av,q.av,t.av] (pA (p.val.mix q.val t.val)):=by
 have h1:=fE q p hq.mono hp.mono
 have s1:=PQ.sz_sub q.val p.val
 have sp:=hp.sz; have sq:=hq.sz; have st:=ht.sz
 have h2:=gg (pc (q.val.sub p.val)) t (cF (by omega)) ht.mono
 rw [bJ] at h2
 have s2:=PQ.sz_scale (q.val.sub p.val) t.val
 have h3:=jz p (pc ((q.val.sub p.val).scale t.val)) hp.mono (cF (by omega))
 rw [bJ] at h3
 change ab _ _ _ (pA (p.val.mix q.val t.val)) at h3
 generalize p.val.mix q.val t.val=r at *
 generalize (q.val.sub p.val).scale t.val=u at *
 generalize q.val.sub p.val=v at *
 refine Pg Tryz.func55 rfl [.cell 6 72] rfl (ji _) ?_
 unfold pA PR.av RQ.av at *
 generalize pc r=cr at *
 generalize pc u=cu at *
 generalize pc v=cv at *
 simp -implicitDefEqProofs [go_sem]
 refine aa h1 ?_
 simp -implicitDefEqProofs [go_sem]
 refine aa h2 ?_
 simp -implicitDefEqProofs [go_sem]
 refine aa h3 ?_
 simp -implicitDefEqProofs [go_sem,aS]
theorem qM (p q:PR) (hp:p.In 4294967296) (hq:q.In 4294967296):ab Tryz.prog 131 [p.av,q.av] (rA (p.val.dot q.val)):=by
 have sp:=hp.sz; have sq:=hq.sz
 have:=p.val.sz_x; have:=p.val.sz_y; have:=q.val.sz_x; have:=q.val.sz_y
 have h1:=eK p.x q.x hp.x.sm hq.x.sm
 have h2:=eK p.y q.y hp.y.sm hq.y.sm
 change ab _ _ _ (rA (p.val.x*q.val.x)) at h1
 change ab _ _ _ (rA (p.val.y*q.val.y)) at h2
 have s1:=ce p.val.x q.val.x
 have s2:=ce p.val.y q.val.y
 have h3:=gY (qc (p.val.x*q.val.x)) (qc (p.val.y*q.val.y)) (fT (by omega)) (fT (by omega))
 rw [cd,cd] at h3
 change ab _ _ _ (rA (p.val.dot q.val)) at h3
 generalize p.val.dot q.val=r at *
 generalize p.val.x*q.val.x=u at *
 generalize p.val.y*q.val.y=v at *
 refine Pg Tryz.func131 rfl [.cell 4 27] rfl (cA _) ?_
 unfold PR.av rA RQ.av at *
 generalize qc r=cr at *
 generalize qc u=cu at *
 generalize qc v=cv at *
 simp -implicitDefEqProofs [go_sem]
 refine aa h1 ?_
 simp -implicitDefEqProofs [go_sem]
 refine aa h2 ?_
 simp -implicitDefEqProofs [go_sem]
 refine aa h3 ?_
 simp -implicitDefEqProofs [go_sem,aS]
theorem uv (p q:PR) (hp:p.In 4294967296) (hq:q.In 4294967296):ab Tryz.prog 94 [p.av,q.av] (rA (p.val.cross q.val)):=by
 have sp:=hp.sz; have sq:=hq.sz
 have:=p.val.sz_x; have:=p.val.sz_y; have:=q.val.sz_x; have:=q.val.sz_y
 have h1:=eK p.x q.y hp.x.sm hq.y.sm
 have h2:=eK p.y q.x hp.y.sm hq.x.sm
 change ab _ _ _ (rA (p.val.x*q.val.y)) at h1
 change ab _ _ _ (rA (p.val.y*q.val.x)) at h2
 have s1:=ce p.val.x q.val.y
 have s2:=ce p.val.y q.val.x
 have h3:=mo (qc (p.val.x*q.val.y)) (qc (p.val.y*q.val.x)) (fT (by omega)) (fT (by omega))
 rw [cd,cd] at h3
 change ab _ _ _ (rA (p.val.cross q.val)) at h3
 generalize p.val.cross q.val=r at *
 generalize p.val.x*q.val.y=u at *
 generalize p.val.y*q.val.x=v at *
 refine Pg Tryz.func94 rfl [.cell 4 27] rfl (cA _) ?_
 unfold PR.av rA RQ.av at *
 generalize qc r=cr at *
 generalize qc u=cu at *
 generalize qc v=cv at *
 simp -implicitDefEqProofs [go_sem]
 refine aa h1 ?_
 simp -implicitDefEqProofs [go_sem]
 refine aa h2 ?_
 simp -implicitDefEqProofs [go_sem]
 refine aa h3 ?_
 simp -implicitDefEqProofs [go_sem,aS]
theorem PQ.ext {p q:PQ} (h1:p.x=q.x) (h2:p.y=q.y):p=q:=by cases p; cases q; simp_all
theorem PQ.eq_iff {p q:PQ}:p=q↔p.x=q.x∧p.y=q.y:=⟨fun h=>by subst h; exact ⟨rfl,rfl⟩,fun h=>PQ.ext h.1 h.2⟩
instance:DecidableEq PQ:=fun p q=>decidable_of_iff _ PQ.eq_iff.symm
theorem wU (p q:PR) (hp:p.In 17179869184) (hq:q.In 17179869184):ab Tryz.prog 33 [p.av,q.av] (.bool (decide (p.val=q.val))):=by
 have h1:=jB p.x q.x hp.x.sm hq.x.sm
 have h2:=jB p.y q.y hp.y.sm hq.y.sm
 have e1 := @rF p.x.val q.x.val
 have e2 := @rF p.y.val q.y.val
 have e3:p.val=q.val↔bW p.x.val q.x.val=0∧bW p.y.val q.y.val=0:=by
  rw [e1,e2,PQ.eq_iff]; rfl
 simp only [e3]
 generalize bW p.x.val q.x.val=c1 at *
 generalize bW p.y.val q.y.val=c2 at *
 refine Pg Tryz.func33 rfl [.tmp 4] rfl (by simp -implicitDefEqProofs [go_sem]) ?_
 unfold PR.av RQ.av at *
 simp -implicitDefEqProofs [go_sem]
 refine ag h1 ?_
 by_cases hc:c1=0
 ·simp -implicitDefEqProofs [go_sem,hc]
  refine ag h2 ?_
  simp -implicitDefEqProofs [go_sem,hc]
 ·simp -implicitDefEqProofs [go_sem,hc]
def PQ.far (p q:PQ):Rat:=(p.sub q).dot (p.sub q)
theorem Ax (p q:PR) (hp:p.In 1073741824) (hq:q.In 1073741824):ab Tryz.prog 132 [p.av,q.av] (rA (p.val.far q.val)):=by
 have sp:=hp.sz; have sq:=hq.sz
 have h1:=fE p q hp.mono hq.mono
 have s1:=PQ.sz_sub p.val q.val
 have h2:=qM (pc (p.val.sub q.val)) (pc (p.val.sub q.val)) (cF (by omega)) (cF (by omega))
 rw [bJ] at h2
 change ab _ _ _ (rA (p.val.far q.val)) at h2
 generalize p.val.far q.val=r at *
 generalize p.val.sub q.val=v at *
 refine Pg Tryz.func132 rfl [.cell 4 27] rfl (cA _) ?_
 unfold pA PR.av rA RQ.av at *
 generalize qc r=cr at *
 generalize pc v=cv at *
 simp -implicitDefEqProofs [go_sem]
 refine ag h1 ?_
 simp -implicitDefEqProofs [go_sem]
 refine ag h2 ?_
 simp -implicitDefEqProofs [go_sem,aS]
def PQ.orient (a b c:PQ):Int:=cP ((b.sub a).cross (c.sub a))
theorem sE (a b c:PR) (ha:a.In 1073741824) (hb:b.In 1073741824) (hc:c.In 1073741824):ab Tryz.prog 127 [a.av,b.av,c.av] (.int .i64 (PQ.orient a.val b.val c.val)):=by
 have sa:=ha.sz; have sb:=hb.sz; have sc:=hc.sz
 have h1:=fE b a hb.mono ha.mono
 have h2:=fE c a hc.mono ha.mono
 have s1:=PQ.sz_sub b.val a.val
 have s2:=PQ.sz_sub c.val a.val
 have h3:=uv (pc (b.val.sub a.val)) (pc (c.val.sub a.val)) (cF (by omega)) (cF (by omega))
 rw [bJ,bJ] at h3
 have s3:sz ((b.val.sub a.val).cross (c.val.sub a.val))≤17179869184:=by
  unfold PQ.cross
  generalize b.val.sub a.val=u at *
  generalize c.val.sub a.val=v at *
  have:=sz_sub (u.x*v.y) (u.y*v.x); have:=ce u.x v.y; have:=ce u.y v.x
  have:=u.sz_x; have:=u.sz_y; have:=v.sz_x; have:=v.sz_y
  omega
 have h4:=dO (qc ((b.val.sub a.val).cross (c.val.sub a.val))) (fT s3).ok
 rw [cd] at h4
 change ab _ _ _ (.int .i64 (PQ.orient a.val b.val c.val)) at h4
 generalize PQ.orient a.val b.val c.val=s at *
 generalize (b.val.sub a.val).cross (c.val.sub a.val)=r at *
 generalize b.val.sub a.val=u at *
 generalize c.val.sub a.val=v at *
 refine Pg Tryz.func127 rfl [.tmp 6] rfl (by simp -implicitDefEqProofs [go_sem]) ?_
 unfold pA PR.av rA RQ.av at *
 generalize qc r=cr at *
 generalize pc u=cu at *
 generalize pc v=cv at *
 simp -implicitDefEqProofs [go_sem]
 refine aa h1 ?_
 simp -implicitDefEqProofs [go_sem]
 refine aa h2 ?_
 simp -implicitDefEqProofs [go_sem]
 refine aa h3 ?_
 simp -implicitDefEqProofs [go_sem]
 refine aa h4 ?_
 simp -implicitDefEqProofs [go_sem]
def dW:Rat:=((1:Int):Rat) / ((2:Int):Rat)
theorem sV:sz dW≤1:=by
 unfold dW
 rw [nY]
 have:=pq (if (2:Int)<0 then -1 else 1) (d:=(2:Int).natAbs) (by decide)
 simp at this ⊢
 have h1:nl 1=1:=je
 have h2:nl 2≤1:=oO (by omega)
 omega
theorem jl (x:Rat):0≤x*x:=by
 rcases (Rat.le_total:0≤x∨x≤0) with h|h
 ·exact Rat.mul_nonneg h h
 ·have:=Rat.mul_nonneg (show 0 ≤ -x by grind) (show 0 ≤ -x by grind)
  grind
theorem o_ (h:RQ):roL [.bool h.neg,nA h.p,nA h.q]:=by simp -implicitDefEqProofs [go_sem]
theorem PQ.sz_dot (p q:PQ):Go.Proofs.YtdnmfaljidjijaaGreat.sz (p.dot q)≤2*(p.sz+q.sz)+1:=by
 have h1:=ce p.x q.x; have h2:=ce p.y q.y
 have h3:=Go.Proofs.YtdnmfaljidjijaaGreat.sz_add (p.x*q.x) (p.y*q.y)
 have:=p.sz_x; have:=p.sz_y; have:=q.sz_x; have:=q.sz_y
 unfold PQ.dot; omega
theorem PQ.sz_far (p q:PQ):Go.Proofs.YtdnmfaljidjijaaGreat.sz (p.far q)≤4*(p.sz+q.sz+1)+1:=by
 have h1:=PQ.sz_sub p q
 have h2:=PQ.sz_dot (p.sub q) (p.sub q)
 unfold PQ.far; omega
theorem PQ.sz_mix (p q:PQ) (t:Rat):(p.mix q t).sz≤2*p.sz+q.sz+Go.Proofs.YtdnmfaljidjijaaGreat.sz t+2:=by
 have q1:=PQ.sz_sub q p
 have q2:=PQ.sz_scale (q.sub p) t
 have q3:=PQ.sz_add p ((q.sub p).scale t)
 unfold PQ.mix; omega
theorem iC {x:Rat}:cP x≤0↔x≤0:=by
 have := @nF x
 constructor
 ·intro h; rcases (Rat.le_total:x≤0∨0≤x) with h1|h1
  ·exact h1
  ·have:¬0<x:=fun h2=>by have:=this.2 h2; omega
   grind
 ·intro h
  have:¬0<cP x:=fun h2=>by have:=this.1 h2; grind
  omega
theorem kE {x y:Rat}:bW x y≤0↔x≤y:=by
 have := @dG x y
 constructor
 ·intro h; rcases (Rat.le_total:x≤y∨y≤x) with h1|h1
  ·exact h1
  ·have:¬y<x:=fun h2=>by have:=this.2 h2; omega
   grind
 ·intro h
  have:¬0<bW x y:=fun h2=>by have:=this.1 h2; grind
  omega
theorem iF:sz (1:Rat)=1:=by
 have:=sX 1
 rw [show ((1:Int):Rat)=1 by rfl] at this
 rw [this,show (1:Int).natAbs=1 by rfl,je]; rfl
theorem HM (x:Rat):1≤sz x:=by
 have h1:=a9 x
 have h2:=ec (Nat.one_le_iff_ne_zero.2 x.den_nz)
 rw [je] at h2
 omega
theorem HK (x:Rat):sz x⁻¹≤sz x:=by
 have h0:=HM x
 have h1:=bA x
 have h2:=a9 x
 have e1:nl (x⁻¹).num.natAbs≤nl x.den:=by
  rw [Rat.num_inv,Int.natAbs_mul]
  refine ec ?_
  have:x.num.sign.natAbs≤1:=by
   rcases Int.sign_trichotomy x.num with h|h|h<;>rw [h]<;>decide
  calc x.num.sign.natAbs*(x.den:Int).natAbs≤1*(x.den:Int).natAbs:=Nat.mul_le_mul_right _ this
   _=x.den:=by simp
 have e2:nl (x⁻¹).den≤sz x:=by
  rw [Rat.den_inv]
  split
  ·rw [je]; exact h0
  ·exact h1
 conv=>lhs; unfold sz
 omega
theorem mr (x y:Rat):sz (x / y)≤sz x+sz y:=by
 rw [Rat.div_def]
 have:=ce x y⁻¹
 have:=HK y
 omega
theorem sU {p q:Int} (hp : -9223372036854775808≤p∧p≤9223372036854775807) (hq : -9223372036854775808≤q∧q≤9223372036854775807) (h0:q≠0):sz ((p:Rat) / (q:Rat))≤1:=by
 rw [nY]
 have h:=pq (if q<0 then -p else p) (d:=q.natAbs) (by omega)
 have h1:=j8 hp
 have h2:=j8 hq
 have h3:(if q<0 then -p else p).natAbs=p.natAbs:=by split<;>simp
 rw [h3] at h
 omega
theorem uc:bu 18446744073709551616 []:=fun _ h=>by cases h
def A4:RQ:=⟨false,[],[]⟩
theorem wV {n:Nat}:A4.In n:=⟨Nat.zero_le _,uc,Nat.zero_le _,uc⟩
def eA (p:PQ):AV := .agg [.bool (decide (p.x.num<0)),qA p.x.num.natAbs,qA p.x.den,.bool (decide (p.y.num<0)),qA p.y.num.natAbs,qA p.y.den]
theorem mT (p:PQ):ro (eA p):=by unfold eA qA; simp -implicitDefEqProofs [go_sem]
theorem BB (x y:Int) (hx : -9223372036854775808≤x∧x≤9223372036854775807) (hy : -9223372036854775808≤y∧y≤9223372036854775807):ab Tryz.prog 138 [.int .i64 x,.int .i64 y] (eA ⟨x,y⟩):=by
 have h1:=bS x 1 hx (by omega) (by omega)
 have h2:=bS y 1 hy (by omega) (by omega)
 rw [show ((x:Int):Rat) / ((1:Int):Rat)=x by rw [show ((1:Int):Rat)=1 from rfl]; grind] at h1
 rw [show ((y:Int):Rat) / ((1:Int):Rat)=y by rw [show ((1:Int):Rat)=1 from rfl]; grind] at h2
 unfold eA
 simp only
 generalize (x:Rat)=rx at *
 generalize (y:Rat)=ry at *
 refine Pg Tryz.func138 rfl [.cell 4 118] rfl (by simp -implicitDefEqProofs [go_sem,qA]) ?_
 unfold fA qA at *
 simp -implicitDefEqProofs [go_sem]
 refine ag h1 ?_
 simp -implicitDefEqProofs [go_sem]
 refine ag h2 ?_
 simp -implicitDefEqProofs [go_sem,aS]
theorem qd (p:PQ) (h:p.sz<549755813888):ab Tryz.prog 56 [eA p] (pA p):=by
 have:=p.sz_x; have:=p.sz_y
 have h1:=qk p.x (by omega)
 have h2:=qk p.y (by omega)
 unfold pA pc PR.av
 refine Pg Tryz.func56 rfl [.cell 2 72] rfl (jQ _) ?_
 unfold eA fA rA RQ.av qA at *
 simp only at *
 generalize qc p.x=c1 at *
 generalize qc p.y=c2 at *
 simp -implicitDefEqProofs [go_sem]
 refine aa h1 ?_
 simp -implicitDefEqProofs [go_sem]
 refine aa h2 ?_
 simp -implicitDefEqProofs [go_sem,aS]
theorem sW {x:Int} (hx : -9223372036854775808≤x∧x≤9223372036854775807):sz (x:Rat)≤1:=by
 rw [sX]; have:=j8 hx; omega
theorem E4 (x y:Int) (hx : -9223372036854775808≤x∧x≤9223372036854775807) (hy : -9223372036854775808≤y∧y≤9223372036854775807):ab Tryz.prog 67 [.int .i64 x,.int .i64 y] (pA ⟨x,y⟩):=by
 have h1:=BB x y hx hy
 have h2:=qd ⟨x,y⟩ (by
  have:=sW hx; have:=sW hy
  unfold PQ.sz; simp only; omega)
 generalize (⟨x,y⟩:PQ)=p at *
 refine Pg Tryz.func67 rfl [.cell 4 72] rfl (ji _) ?_
 unfold eA pA PR.av qA at *
 generalize pc p=c at *
 simp -implicitDefEqProofs [go_sem]
 refine ag h1 ?_
 simp -implicitDefEqProofs [go_sem]
 refine ag h2 ?_
 simp -implicitDefEqProofs [go_sem,aS]
def pZ:AV := .agg [.bool false,.sl 0 true [],.sl 0 true [],.bool false,.sl 0 true [],.sl 0 true []]
theorem gc (p q:PQ) (hp:p.sz≤17179869184) (hq:q.sz≤17179869184):ab Tryz.prog 33 [pA p,pA q] (.bool (decide (p=q))):=by
 have h:=wU (pc p) (pc q) (cF hp) (cF hq)
 rw [bJ,bJ] at h
 exact h
def wP (x y:Int):PQ:=⟨x,y⟩
theorem K5 {x y:Int} (hx : -1000≤x∧x≤1000) (hy : -1000≤y∧y≤1000):(wP x y).sz≤1:=by
 have:=sW (x:=x) (by omega); have:=sW (x:=y) (by omega)
 unfold PQ.sz wP; simp only; omega
theorem s_ (x y:Int) (hx : -1000≤x∧x≤1000) (hy : -1000≤y∧y≤1000):ab Tryz.prog 67 [.int .i64 x,.int .i64 y] (pA (wP x y)):=E4 x y (by omega) (by omega)
structure HR.In (n:Nat) (h:HR):Prop where
 x:h.x.In n
 y:h.y.In n
 w:h.w.In n
theorem HR.In.mono {n m:Nat} {z:HR} (h:z.In n) (hn:n≤m:=by omega):z.In m:=⟨h.x.mono hn,h.y.mono hn,h.w.mono hn⟩
theorem HQ.sz_x (h:HQ):Go.Proofs.YtdnmfaljidjijaaGreat.sz h.x≤h.sz:=by unfold HQ.sz; omega
theorem HQ.sz_y (h:HQ):Go.Proofs.YtdnmfaljidjijaaGreat.sz h.y≤h.sz:=by unfold HQ.sz; omega
theorem HQ.sz_w (h:HQ):Go.Proofs.YtdnmfaljidjijaaGreat.sz h.w≤h.sz:=by unfold HQ.sz; omega
theorem ox {n:Nat} {h:HQ} (hs:h.sz≤n):(hc h).In n:=⟨gh (Nat.le_trans h.sz_x hs),gh (Nat.le_trans h.sz_y hs),gh (Nat.le_trans h.sz_w hs)⟩
theorem HR.In.sz {n:Nat} {z:HR} (h:z.In n) (hn:1≤n:=by omega):z.val.sz≤n:=by
 have:=h.x.sz hn; have:=h.y.sz hn; have:=h.w.sz hn
 unfold HQ.sz HR.val; simp only; omega
theorem F2 (h:HQ):ro (hA h):=oY _
def br (a b:Rat):Rat:=(a+b)*dW
theorem Am (a:Rat):br a a=a:=by
 unfold br dW
 grind
theorem sY (a b:Rat):sz (br a b)≤sz a+sz b+2:=by
 have:=sz_add a b; have:=ce (a+b) dW; have:=sV
 unfold br; omega
theorem oK (a b:RQ) (ha:a.In 4294967296) (hb:b.In 4294967296):ab Tryz.prog 323 [a.av,b.av] (rA (br a.val b.val)):=by
 have sa:=ha.sz; have sb:=hb.sz
 have h1:=gY a b ha.sm hb.sm
 have h2:=eW 1 2 (by omega) (by omega) (by omega)
 have s1:=sz_add a.val b.val
 have h3:=eK (qc (a.val+b.val)) (qc dW) (fT (by omega)) (fT (by have:=sV; omega))
 rw [cd,cd] at h3
 change ab _ _ _ (rA (br a.val b.val)) at h3
 change ab _ _ _ (rA dW) at h2
 generalize br a.val b.val=r at *
 generalize a.val+b.val=u at *
 refine Pg Tryz.func323 rfl [.cell 4 27] rfl (cA _) ?_
 unfold rA RQ.av at *
 generalize qc r=cr at *
 generalize qc u=cu at *
 generalize qc dW=ch at *
 simp -implicitDefEqProofs [go_sem]
 refine ag h1 ?_
 simp -implicitDefEqProofs [go_sem]
 refine ag h2 ?_
 simp -implicitDefEqProofs [go_sem]
 refine ag h3 ?_
 simp -implicitDefEqProofs [go_sem,aS]
def HQ.mid (a b:HQ):HQ:=⟨br a.x b.x,br a.y b.y,br a.w b.w⟩
theorem HQ.mid_self (a:HQ):a.mid a=a:=by unfold HQ.mid; simp only [Am]
theorem HQ.sz_mid (a b:HQ):(a.mid b).sz≤a.sz+b.sz+2:=by
 have:=sY a.x b.x; have:=sY a.y b.y; have:=sY a.w b.w
 have:=a.sz_x; have:=a.sz_y; have:=a.sz_w; have:=b.sz_x; have:=b.sz_y; have:=b.sz_w
 unfold HQ.mid
 conv=>lhs; unfold HQ.sz
 simp only
 omega
theorem mO (a b:HR) (ha:a.In 4294967296) (hb:b.In 4294967296):ab Tryz.prog 304 [a.av,b.av] (hA (a.val.mid b.val)):=by
 have h1:=oK a.x b.x ha.x hb.x
 have h2:=oK a.y b.y ha.y hb.y
 have h3:=oK a.w b.w ha.w hb.w
 unfold hA HQ.mid hc HR.val
 simp only
 generalize br a.x.val b.x.val=r1 at *
 generalize br a.y.val b.y.val=r2 at *
 generalize br a.w.val b.w.val=r3 at *
 refine Pg Tryz.func304 rfl [.cell 4 293] rfl (oY _) ?_
 unfold HR.av rA RQ.av at *
 simp only at *
 generalize qc r1=c1 at *
 generalize qc r2=c2 at *
 generalize qc r3=c3 at *
 simp -implicitDefEqProofs [go_sem]
 refine aa h1 ?_
 simp -implicitDefEqProofs [go_sem]
 refine aa h2 ?_
 simp -implicitDefEqProofs [go_sem]
 refine aa h3 ?_
 simp -implicitDefEqProofs [go_sem,aS]
theorem oy (a:HR) (ha:a.In 4294967296):ab Tryz.prog 303 [a.av] (hA a.val):=by
 have h:=mO a a ha ha
 rw [HQ.mid_self] at h
 refine Pg Tryz.func303 rfl [.cell 2 293] rfl (oY _) ?_
 unfold hA HR.av at *
 generalize hc a.val=r at *
 simp -implicitDefEqProofs [go_sem]
 refine ag h ?_
 simp -implicitDefEqProofs [go_sem,aS]
def bX (l:List HQ):Prop:=(∀h∈l,0<h.w)∧2≤l.length∧l.length≤4
instance (l:List HQ):Decidable (bX l):=inferInstanceAs (Decidable (_∧_))
theorem jI {l:List HQ} {i:Nat} (hi:i<l.length) {P:HQ→Prop}:(∀h∈l.take (i+1),P h)↔(∀h∈l.take i,P h)∧P l[i]:=by
 have e:l.take (i+1)=l.take i++[l[i]]:=List.take_succ_eq_append_getElem hi
 constructor
 ·intro g
  rw [e] at g
  exact ⟨fun h hh=>g h (List.mem_append_left _ hh),g _ (List.mem_append_right _ (List.mem_singleton_self _))⟩
 ·rintro ⟨g1,g2⟩ h hh
  rw [e] at hh
  rcases List.mem_append.1 hh with h1|h1
  ·exact g1 h h1
  ·rw [List.mem_singleton.1 h1]; exact g2
theorem fK (l:List HR) (hl:l.length<1099511627776) (hz:∀h∈l,h.w.Ok):ab Tryz.prog 261 [hL l] (.bool (decide (bX (l.map HR.val)))):=by
 refine Pg Tryz.func261 rfl [.tmp 2] rfl (by simp -implicitDefEqProofs [go_sem]) ?_
 unfold hL
 simp -implicitDefEqProofs [go_sem]
 refine aj 19 (α:={i:Nat // i≤l.length∧∀h∈(l.map HR.val).take i,0<h.w}) (fun i=>[(0,hL l),(5,hL l),(6,.int .i64 l.length),(7,.int .i64 i.1)]) (fun i=>[]) (fun i=>l.length-i.1) ⟨0,by simp⟩ [] (by simp) (by simp) (by simp) (by simp -implicitDefEqProofs [go_sem,hL]) (by simp -implicitDefEqProofs [go_sem]) fun ⟨i,hi,hw⟩=>?_
 simp -implicitDefEqProofs [go_sem,hL]
 refine ⟨fun h=>?_,fun h=>?_⟩
 ·have hg:=nv (l:=l) (i:=i) h
  have hs:=dO l[i].w (hz _ (List.getElem_mem h))
  have es:=wS i (by omega)
  have hgt := @nF l[i].w.val
  generalize cP l[i].w.val=s at *
  simp only [HR.av] at hg
  unfold RQ.av at hs
  simp -implicitDefEqProofs [go_sem,hg]
  refine ⟨h,ag hs ?_⟩
  by_cases h0:s≤0
  ·simp -implicitDefEqProofs [go_sem,h0]
   intro hG
   have h1:=hG.1 l[i].val (List.mem_map.2 ⟨_,List.getElem_mem h,rfl⟩)
   have:=hgt.2 h1
   omega
  ·simp -implicitDefEqProofs [go_sem,h0,es]
   refine ae ⟨i+1,Nat.succ_le_of_lt h,?_⟩ (by simp only; omega) [] (by simp) (by simp) (by simp) (by simp -implicitDefEqProofs [go_sem,hL]) (by simp -implicitDefEqProofs [go_sem])
   rw [jI (by simpa using h)]
   refine ⟨hw,?_⟩
   rw [List.getElem_map]
   exact hgt.1 (by omega)
 ·have hii:i=l.length:=by omega
  have hall:∀h∈l.map HR.val,0<h.w:=by rw [List.take_of_length_le (by simp; omega)] at hw; exact hw
  unfold bX
  simp only [List.length_map]
  exact ⟨fun h2=>⟨fun h4=>⟨hall,by omega,by omega⟩,fun g=>by have:=g.2.2; omega⟩,fun h2 g=>by have:=g.2.1; omega⟩
def iy:List HQ→List HQ
 | a::b::r=>a.mid b::iy (b::r)
 | _=>[]
theorem fR:∀l:List HQ,(iy l).length=l.length-1
 | []=>rfl
 | [_]=>rfl
 | a::b::r=>by simp only [iy,List.length_cons,fR (b::r)]; omega
theorem kS:∀(l:List HQ) (i:Nat) (h:i+1<l.length),(iy l)[i]'(by rw [fR]; omega)=l[i].mid l[i+1]
 | [],i,h=>by simp at h
 | [_],i,h=>by simp at h
 | a::b::r,0,h=>rfl
 | a::b::r,i+1,h=>by
  have:=kS (b::r) i (by simpa using h)
  simpa [iy] using this
def cS:Nat→List HQ→List HQ
 | 0,l=>l
 | i+1,l=>iy (cS i l)
theorem o9 (i:Nat) (l:List HQ):(cS i l).length=l.length-i:=by
 induction i with
 | zero=>rfl
 | succ i ih=>simp only [cS,fR,ih]; omega
def hQ0:HQ:=⟨0,0,0⟩
def aW:Nat→List HQ→List HQ
 | 0,_=>[]
 | i+1,l=>aW i l++[(cS i l).headD hQ0]
def aX:Nat→List HQ→List HQ
 | 0,_=>[]
 | i+1,l=>(cS i l).getLastD hQ0::aX i l
theorem gH (i:Nat) (l:List HQ):(aW i l).length=i:=by
 induction i with
 | zero=>rfl
 | succ i ih=>simp [aW,ih]
theorem gJ (i:Nat) (l:List HQ):(aX i l).length=i:=by
 induction i with
 | zero=>rfl
 | succ i ih=>simp [aX,ih]
theorem CD {l:List HQ} {n:Nat} (h:∀x∈l,x.sz≤n):∀x∈iy l,x.sz≤2*n+2:=by
 intro x hx
 obtain ⟨i,hi,rfl⟩:=List.mem_iff_getElem.1 hx
 rw [fR] at hi
 rw [kS l i (by omega)]
 have h1:=h l[i] (List.getElem_mem _)
 have h2:=h l[i+1] (List.getElem_mem _)
 have:=HQ.sz_mid l[i] l[i+1]
 omega
theorem uO {l:List HQ} {n:Nat} (hn:1≤n) (h:∀x∈l,x.sz≤n) (i:Nat):∀x∈cS i l,x.sz≤4 ^ i*n:=by
 induction i with
 | zero=>intro x hx; have:=h x hx; omega
 | succ i ih =>
  intro x hx
  have h1:=CD ih x hx
  have h2:1*1≤4 ^ i*n:=Nat.mul_le_mul (Nat.pow_pos (by omega)) hn
  rw [Nat.pow_succ,Nat.mul_comm (4 ^ i) 4,Nat.mul_assoc]
  omega
def hZ:AV := .agg [.bool false,.sl 0 true [],.sl 0 true [],.bool false,.sl 0 true [],.sl 0 true [],.bool false,.sl 0 true [],.sl 0 true []]
def lT (z:AV) (a:List AV) (n:Nat):List AV:=a++List.replicate (n-a.length) z
theorem fq {z:AV} {a:List AV} {n:Nat} (h:a.length≤n):(lT z a n).length=n:=by simp [lT]; omega
theorem rO {z:AV} {a:List AV} {n:Nat} (x:AV) (h:a.length<n):(lT z a n).set a.length x=lT z (a++[x]) n:=by
 unfold lT
 obtain ⟨k,hk⟩:∃k,n-a.length=k+1:=⟨n-a.length-1,by omega⟩
 rw [List.set_append_right _ _ (Nat.le_refl _),Nat.sub_self,hk,List.replicate_succ,List.set_cons_zero]
 simp only [List.length_append,List.length_singleton]
 rw [show n-(a.length+1)=k by omega]
 simp
theorem vV {z:AV} {a:List AV} {n i:Nat} (h:a.length≤i) (hi:i<n):(lT z a n)[i]?.getD AV.any=z:=by
 unfold lT
 rw [List.getElem?_append_right h,List.getElem?_replicate,if_pos (by omega)]; rfl
theorem n9 {z:AV} {a:List AV} {n:Nat} (h:a.length=n):lT z a n=a:=by unfold lT; rw [h,Nat.sub_self]; simp
theorem rN (z:AV) (n:Nat):List.replicate n z=lT z [] n:=by simp [lT]
theorem ld {z:AV} {a:List AV} {n:Nat} (hz:ro z) (ha:roL a):roL (lT z a n):=aB.2 ⟨ha,fv.2 fun x hx=>by rw [(List.mem_replicate.1 hx).2]; exact hz⟩
theorem uK:ro hZ:=by unfold hZ; simp -implicitDefEqProofs [go_sem]
def qL (l:List HQ):AV := .sl 9 false (l.map hA)
@[go_sem] theorem fk (l:List HQ):roL (l.map hA):=bC F2
theorem yG (l:List HQ):ro (qL l):=by unfold qL; simp only [ro]; exact fk l
theorem KW (l:List HQ):hL (l.map hc)=qL l:=by unfold hL qL; rw [List.map_map]; rfl
@[go_sem] theorem Ms (rn:Nat→Nat) (l:List HQ):renL rn (l.map hA)=l.map hA:=renL_ro rn _ (fk l)
@[go_sem] theorem LF (n:Nat) (l:List HQ):cloL n (l.map hA):=cloL_ro _ (fk l)
@[go_sem] theorem J1 (f:Nat→BS) (l:List HQ):fitsL f (l.map hA):=fitsL_ro f _ (fk l)
@[go_sem] theorem Lb (f:Nat→BS) (l:List HQ):viewL f (l.map hA)=l.map hA:=viewL_ro f _ (fk l)
@[go_sem] theorem Dj (n:Nat) (l:List HQ):roL (lT hZ (l.map hA) n):=ld uK (fk l)
@[go_sem] theorem Mq (rn:Nat→Nat) (n:Nat) (l:List HQ):renL rn (lT hZ (l.map hA) n)=lT hZ (l.map hA) n:=renL_ro rn _ (Dj n l)
@[go_sem] theorem LD (m n:Nat) (l:List HQ):cloL m (lT hZ (l.map hA) n):=cloL_ro _ (Dj n l)
@[go_sem] theorem Di (n:Nat):roL (lT hZ [] n):=ld uK trivial
@[go_sem] theorem Mp (rn:Nat→Nat) (n:Nat):renL rn (lT hZ [] n)=lT hZ [] n:=renL_ro rn _ (Di n)
@[go_sem] theorem LC (m n:Nat):cloL m (lT hZ [] n):=cloL_ro _ (Di n)
theorem j4 (h:HR):∃cs,h.av = .agg cs∧cs.length=9∧cs.take 9=cs∧roL cs:=by
 have:=oY h
 unfold HR.av at this ⊢
 exact ⟨_,rfl,rfl,rfl,by simpa only [ro] using this⟩
def iO (z:AV) (A C:List AV) (n i:Nat):List AV:=lT z A n++(List.replicate (n-i) z++C)
theorem Bp {z:AV} {A C:List AV} {n i:Nat} (hA:A.length=i) (hC:C.length=i) (hi:i≤n):(iO z A C n i).length=n+n:=by
 unfold iO; rw [List.length_append,fq (by omega),List.length_append,List.length_replicate]; omega
theorem Bn {z:AV} {A C:List AV} {n i:Nat} (hA:A.length=i) (hi:i<n):(iO z A C n i)[i]?.getD AV.any=z:=by
 unfold iO
 rw [List.getElem?_append_left (by rw [fq (by omega)]; exact hi)]
 exact vV (by omega) hi
theorem Bo {z x:AV} {A C:List AV} {n i k:Nat} (hA:A.length=i) (hk:n=i+k+1):((iO z A C n i).set i x)[n+k]?.getD AV.any=z:=by
 rw [List.getElem?_set_ne (by omega)]
 unfold iO
 rw [List.getElem?_append_right (by rw [fq (by omega)]; omega),fq (by omega),List.getElem?_append_left (by rw [List.length_replicate]; omega),List.getElem?_replicate,if_pos (by omega)]; rfl
theorem Bq {z x y:AV} {A C:List AV} {n i k:Nat} (hA:A.length=i) (hk:n=i+k+1):((iO z A C n i).set i x).set (n+k) y=iO z (A++[x]) (y::C) n (i+1):=by
 have h1:=rO (z:=z) (a:=A) (n:=n) x (by omega)
 rw [hA] at h1
 unfold iO
 rw [List.set_append_left _ _ (by rw [fq (by omega)]; omega),h1,List.set_append_right _ _ (by rw [fq (by simp; omega)]; omega),fq (by simp; omega)]
 congr 1
 rw [show n+k-n=k by omega,show n-i=k+1 by omega,show n-(i+1)=k by omega]
 rw [List.replicate_succ',List.append_assoc,List.set_append_right _ _ (by simp)]
 simp
theorem zj (z:AV) (n:Nat):List.replicate (n+n) z=iO z [] [] n 0:=by
 unfold iO; rw [←rN]; simp
theorem Dg {z:AV} {A C:List AV} {n i:Nat} (hz:ro z) (hA:roL A) (hC:roL C):roL (iO z A C n i) :=
 aB.2 ⟨ld hz hA,aB.2 ⟨fv.2 fun x hx=>by rw [(List.mem_replicate.1 hx).2]; exact hz,hC⟩⟩
theorem Bs (l:List HR) (hz:∀h∈l,h.In 16777216) (hG:bX (l.map HR.val)):ab Tryz.prog 264 [hL l] (.tup [qL (aW l.length (l.map HR.val)),qL (aX l.length (l.map HR.val)),.int .i64 0]):=by
 have hg:=fK l (by have:=hG.2.2; simp at this; omega) (fun h hh=>(hz h hh).w.sm.ok)
 rw [decide_eq_true hG] at hg
 have hn2:2≤l.length:=by have:=hG.2.1; simpa using this
 have hn4:l.length≤4:=by have:=hG.2.2; simpa using this
 obtain ⟨v,hv⟩:∃v,v=l.map HR.val:=⟨_,rfl⟩
 rw [←hv]
 have hvl:v.length=l.length:=by rw [hv]; simp
 refine Pg Tryz.func264 rfl [.tmp 2,.tmp 3,.tmp 4] rfl (by simp only [ro,roL]; exact ⟨yG _,yG _,trivial,trivial⟩) ?_
 obtain ⟨n,hn⟩:∃n,n=l.length:=⟨_,rfl⟩
 unfold hL qL at *
 simp -implicitDefEqProofs [go_sem]
 refine ag hg ?_
 simp -implicitDefEqProofs [go_sem]
 refine ⟨by omega,?_⟩
 rw [←hn] at hvl hn2 hn4 ⊢
 change go _ _ _ _ _ _ (ar (fun x=>BS.fresh) 0 (BS.live 9 (List.replicate n hZ))) _
 rw [rN hZ n]
 obtain ⟨cz,z1,z2,z3⟩:∃cz,hZ = .agg cz∧cz.drop 9=[]∧cz.length=9:=⟨_,rfl,rfl,rfl⟩
 obtain ⟨V,hV⟩:∃V,V=v.map hA:=⟨_,rfl⟩
 have hVl:V.length=n:=by rw [hV]; simp [hvl]
 have hVr:roL V:=by rw [hV]; exact fk v
 have hVt:∀i,roL (lT hZ (V.take i) n):=fun i=>ld uK (bB hVr)
 refine aj 9 (α:={i:Nat // i≤n}) (fun i=>[(0,hL l),(5,.own 9 0 0 n),(19,hL l),(20,.int .i64 n),(21,.int .i64 i.1)]) (fun i=>[(0,.live 9 (lT hZ (V.take i.1) n))]) (fun i=>n-i.1) ⟨0,by omega⟩ [] (by simp) (by simp) (by simp) (by simp -implicitDefEqProofs [go_sem,hL,←hn]) (by simp -implicitDefEqProofs [go_sem]) fun ⟨i,hi⟩=>?_
 simp -implicitDefEqProofs [go_sem,hL]
 refine ⟨fun h=>?_,fun h=>?_⟩
 ·have hge:=nv (l:=l) (i:=i) (by omega)
  have hgd:=oy l[i] (hz _ (List.getElem_mem _)).mono
  have hvi:l[i].val=v[i]'(by omega):=by subst hv; simp
  rw [hvi] at hgd
  have es:=wS i (by omega)
  have htl:(V.take i).length=i:=by rw [List.length_take]; omega
  have hat:=vV (z:=hZ) (a:=V.take i) (n:=n) (i:=i) (by omega) (by omega)
  obtain ⟨c1,k1,k2,k3,k4⟩:=j4 l[i]
  obtain ⟨c2,m1,m2,m3,m4⟩:=j4 (hc v[i])
  change hA v[i]=_ at m1
  have hst:=rO (z:=hZ) (a:=V.take i) (n:=n) (.agg c2) (by omega)
  have hsucc:V.take i++[.agg c2]=V.take (i+1):=by
   rw [List.take_succ_eq_append_getElem (by omega),←m1]; subst hV; simp
  rw [htl,hsucc] at hst
  rw [k1] at hge hgd
  rw [m1] at hgd
  have r0:=renL_ro (nm []) _ (hVt (i+1))
  have r1:=cloL_ro (n:=9) _ (hVt (i+1))
  have hfl:=fq (z:=hZ) (a:=V.take i) (n:=n) (by omega)
  have hat:=hat.trans z1
  simp -implicitDefEqProofs [go_sem,hge,k2,k3]
  refine ⟨by omega,ai _ hgd (by simp [go_sem,k4]) ?_⟩
  simp -implicitDefEqProofs [go_sem,hat,hfl,m2,m3,z2,z3,es,hst]
  refine ⟨by omega,ae ⟨i+1,by omega⟩ (by simp only; omega) [] (by simp) (by simp) (by simp) (by simp -implicitDefEqProofs [go_sem,hL]) (by simp -implicitDefEqProofs [go_sem,r0,r1])⟩
 ·have hin:i=n:=by omega
  subst hin
  have hff:lT hZ (V.take i) i=V:=by rw [List.take_of_length_le (by omega)]; exact n9 hVl
  rw [hff]
  clear hi
  have e2:IntKind.i64.wrap (2*(l.length:Int))=(i+i:Nat):=by rw [bO (by omega)]; omega
  obtain ⟨m,hm⟩:∃m,m=i+i:=⟨_,rfl⟩
  rw [←hm] at e2
  rw [e2,←hn]
  simp -implicitDefEqProofs [go_sem]
  refine ⟨by omega,by omega,?_⟩
  have hvs:∀x∈v,x.sz≤16777216:=by
   intro x hx
   rw [hv] at hx
   obtain ⟨y,hy,rfl⟩:=List.mem_map.1 hx
   exact (hz y hy).sz
  have hrs:∀j,j≤4→∀x∈cS j v,x.sz≤4294967296:=fun j hj x hx=>by
   have h1:=uO (by omega) hvs j x hx
   have h2:4 ^ j≤4 ^ 4:=Nat.pow_le_pow_right (by omega) hj
   have h3:4 ^ j*16777216≤4 ^ 4*16777216:=Nat.mul_le_mul_right _ h2
   omega
  have hmi:m-i=i:=by omega
  rw [hmi]
  change go _ _ _ _ _ _ (dB 22 (ar (ar (hp 9 []) 0 (BS.live 9 V)) 9 (BS.live 9 (List.replicate m hZ)))) _
  rw [hm,zj]
  have hBr:∀j,roL (iO hZ ((aW j v).map hA) ((aX j v).map hA) i j):=fun j=>Dg uK (fk _) (fk _)
  have hRr:∀j,roL ((cS j v).map hA):=fun j=>fk _
  clear hz hg
  refine aj 29 (α:={j:Nat // j≤i}) (fun j=>[(0,hL l),(2,.own 9 9 0 i),(3,.own 9 9 i i),(5,.own 9 0 0 ((cS j.1 v).map hA).length),(47,.int .i64 i),(48,.int .i64 j.1)]) (fun j=>[(0,.live 9 ((cS j.1 v).map hA)),(9,.live 9 (iO hZ ((aW j.1 v).map hA) ((aX j.1 v).map hA) i j.1))]) (fun j=>i-j.1) ⟨0,by omega⟩ [] (by simp) (fun _ _ _ _ h=>h) (by omega) (by simp -implicitDefEqProofs [go_sem,hL,cS,hvl]) (by simp -implicitDefEqProofs [go_sem,cS,aW,aX,←hV]; exact ⟨⟨(renL_ro _ _ hVr).symm,cloL_ro _ hVr⟩,(renL_ro _ _ (by have:=hBr 0; simpa [aW,aX] using this)).symm,cloL_ro _ (by have:=hBr 0; simpa [aW,aX] using this)⟩) fun ⟨j,hj⟩=>?_
  simp -implicitDefEqProofs [go_sem,hL]
  refine ⟨fun h=>?_,fun h=>?_⟩
  ·have hrl:=o9 j v
   have hrz:=hrs j (by omega)
   have hRL:=hRr j
   have cL1:aW (j+1) v=aW j v++[(cS j v).headD hQ0]:=rfl
   have cR1:aX (j+1) v=(cS j v).getLastD hQ0::aX j v:=rfl
   have rN1:cS (j+1) v=iy (cS j v):=rfl
   have hB1:=hBr (j+1)
   obtain ⟨ρ,hρ⟩:∃ρ,ρ=cS j v:=⟨_,rfl⟩
   rw [←hρ] at hrl hrz hRL cL1 cR1 rN1
   obtain ⟨k,hk⟩:∃k,i=j+k+1:=⟨i-j-1,by omega⟩
   have hρk:ρ.length=k+1:=by omega
   have e1:IntKind.i64.wrap ((ρ.length:Int)-1)=(k:Nat):=by rw [bO (by omega)]; omega
   obtain ⟨c0,k1,k2,k3,k4⟩:=j4 (hc ρ[0])
   obtain ⟨ck,m1,m2,m3,m4⟩:=j4 (hc ρ[k])
   have g0:(Option.map hA ρ[0]?).getD AV.any = .agg c0:=by rw [List.getElem?_eq_getElem (by omega)]; exact k1
   have gk:(Option.map hA ρ[k]?).getD AV.any = .agg ck:=by rw [List.getElem?_eq_getElem (by omega)]; exact m1
   have hgd:=oy (hc ρ[k]) (ox (hrz _ (List.getElem_mem _)))
   rw [rV] at hgd
   change ab _ _ _ (HR.av (hc ρ[k])) at hgd
   rw [m1] at hgd
   have lA:((aW j v).map hA).length=j:=by rw [List.length_map,gH]
   have lC:((aX j v).map hA).length=j:=by rw [List.length_map,gJ]
   have b1:=(Bn (z:=hZ) (A:=(aW j v).map hA) (C:=(aX j v).map hA) (n:=i) (i:=j) lA h).trans z1
   have b2:=fun x=>(Bo (z:=hZ) (x:=x) (A:=(aW j v).map hA) (C:=(aX j v).map hA) (n:=i) (i:=j) (k:=k) lA hk).trans z1
   have b3:=Bq (z:=hZ) (x := .agg c0) (y := .agg ck) (A:=(aW j v).map hA) (C:=(aX j v).map hA) (n:=i) (i:=j) (k:=k) lA hk
   have bl:=Bp (z:=hZ) (A:=(aW j v).map hA) (C:=(aX j v).map hA) (n:=i) (i:=j) lA lC (by omega)
   have b4:((aW j v).map hA)++[.agg c0]=(aW (j+1) v).map hA:=by
    rw [cL1,List.map_append,←k1]
    cases ρ with
    | nil=>simp at hρk
    | cons a r=>rfl
   have b5 : .agg ck::((aX j v).map hA)=(aX (j+1) v).map hA:=by
    rw [cR1,List.map_cons,←m1]
    have:ρ.getLastD hQ0=ρ[k]:=by
     rw [List.getLastD_eq_getLast?,List.getLast?_eq_getElem?,show ρ.length-1=k by omega,List.getElem?_eq_getElem (by omega)]; rfl
    rw [this]; rfl
   rw [b4,b5] at b3
   generalize hBj:iO hZ ((aW j v).map hA) ((aX j v).map hA) i j=Bj at *
   generalize hBj1:iO hZ ((aW (j+1) v).map hA) ((aX (j+1) v).map hA) i (j+1)=Bj1 at *
   have e2:(0:Int)≤(k:Nat):=by omega
   simp -implicitDefEqProofs [go_sem,←hρ,e1,g0,gk,k2,k3,m2,m3]
   refine ⟨by omega,by omega,aC _ hgd (by simp [go_sem,m4]) ?_⟩
   simp -implicitDefEqProofs [go_sem,←hρ,e1,g0,gk,k2,k3,m2,m3,b1,b2,b3,bl,z2,z3]
   refine ⟨h,by omega,by omega,by omega,?_⟩
   change go _ _ _ _ _ _ (ar (dB 45 (ar (ar (ar (ar (hp 29 []) 9 (BS.live 9 Bj)) 0 (BS.live 9 (List.map hA ρ))) 9 (BS.live 9 (Bj.set j (AV.agg c0)))) 9 (BS.live 9 Bj1))) 45 (BS.live 9 (List.replicate k hZ))) 46
   rw [rN hZ k]
   obtain ⟨M,hM⟩:∃M,M=(iy ρ).map hA:=⟨_,rfl⟩
   have hMl:M.length=k:=by rw [hM,List.length_map,fR]; omega
   have hMr:roL M:=by rw [hM]; exact fk _
   have hMt:∀q,roL (lT hZ (M.take q) k):=fun q=>ld uK (bB hMr)
   refine aj 59 (α:={q:Nat // q≤k}) (fun q=>[(0,hL l),(2,.own 9 9 0 i),(3,.own 9 9 i i),(5,.own 9 0 0 ρ.length),(11,.own 9 45 0 k),(47,.int .i64 i),(48,.int .i64 j),(71,.int .i64 k),(72,.int .i64 q.1)]) (fun q=>[(0,.live 9 (ρ.map hA)),(9,.live 9 Bj1),(45,.live 9 (lT hZ (M.take q.1) k))]) (fun q=>k-q.1) ⟨0,by omega⟩ [] (by simp) (fun _ _ _ _ h=>h) (by omega) (by simp -implicitDefEqProofs [go_sem,hL]) (by simp -implicitDefEqProofs [go_sem]; exact ⟨(renL_ro _ _ hB1).symm,cloL_ro _ hB1⟩) fun ⟨q,hq⟩=>?_
   simp -implicitDefEqProofs [go_sem,hL]
   refine ⟨fun h5=>?_,fun h5=>?_⟩
   ·obtain ⟨ca,x1,x2,x3,x4⟩:=j4 (hc ρ[q])
    obtain ⟨cb,y1,y2,y3,y4⟩:=j4 (hc ρ[q+1])
    obtain ⟨cm,w1,w2,w3,w4⟩:=j4 (hc (ρ[q].mid ρ[q+1]))
    have ga:(Option.map hA ρ[q]?).getD AV.any = .agg ca:=by rw [List.getElem?_eq_getElem (by omega)]; exact x1
    have gb:(Option.map hA ρ[q+1]?).getD AV.any = .agg cb:=by rw [List.getElem?_eq_getElem (by omega)]; exact y1
    have hmd:=mO (hc ρ[q]) (hc ρ[q+1]) (ox (hrz _ (List.getElem_mem _))) (ox (hrz _ (List.getElem_mem _)))
    rw [rV,rV] at hmd
    change ab _ _ _ (HR.av (hc (ρ[q].mid ρ[q+1]))) at hmd
    rw [x1,y1,w1] at hmd
    have e3:=wS q (by omega)
    obtain ⟨q1,hq1⟩:∃x,x=q+1:=⟨_,rfl⟩
    rw [←hq1] at e3 gb
    have htl:(M.take q).length=q:=by rw [List.length_take]; omega
    have hat:=(vV (z:=hZ) (a:=M.take q) (n:=k) (i:=q) (by omega) (by omega)).trans z1
    have hst:=rO (z:=hZ) (a:=M.take q) (n:=k) (.agg cm) (by omega)
    have hsucc:M.take q++[.agg cm]=M.take q1:=by
     rw [hq1,List.take_succ_eq_append_getElem (by omega),←w1]; subst hM
     simp only [List.getElem_map,kS ρ q (by omega)]; rfl
    rw [htl,hsucc] at hst
    have hfl:=fq (z:=hZ) (a:=M.take q) (n:=k) (by omega)
    have r0:=renL_ro (nm []) _ (hMt q1)
    have r1:=cloL_ro (n:=59) _ (hMt q1)
    have r2:=renL_ro (nm []) _ hB1
    have r3:=cloL_ro (n:=59) _ hB1
    have u1:q1≤k:=by omega
    have u2:q<k+1:=by omega
    have u3:q1<k+1:=by omega
    simp -implicitDefEqProofs [go_sem,e3,ga,gb,x2,x3,y2,y3]
    refine ⟨by omega,by omega,aC _ hmd (by simp [go_sem,x4,y4]) ?_⟩
    simp -implicitDefEqProofs [go_sem,e3,ga,gb,w2,w3,hat,hst,hfl,z2,z3]
    refine ⟨by omega,ae ⟨q1,u1⟩ (by simp only; omega) [] (by simp) (fun _ _ _ _ h=>h) (by omega) (by simp -implicitDefEqProofs [go_sem,hL]) (by simp -implicitDefEqProofs [go_sem]; exact ⟨⟨r2.symm,r3⟩,r0.symm,r1⟩)⟩
   ·have hqk:q=k:=by omega
    subst hqk
    have hff2:lT hZ (M.take q) q=M:=by rw [List.take_of_length_le (by omega)]; exact n9 hMl
    have es:=wS j (by omega)
    obtain ⟨j1,hj1⟩:∃x,x=j+1:=⟨_,rfl⟩
    rw [←hj1] at es rN1 hBj1
    rw [hff2,es]
    have l1:(cS j1 v).length=q:=by rw [rN1,fR]; omega
    refine ae ⟨j1,by omega⟩ (by simp only; omega) [(0,45)] (by simp) (by simp [go_sem]) (by omega) (by simp -implicitDefEqProofs [go_sem,hL,l1]) (by simp -implicitDefEqProofs [go_sem,rN1,←hM,hBj1]; exact ⟨⟨(renL_ro _ _ hMr).symm,cloL_ro _ hMr⟩,(renL_ro _ _ (by rw [hj1] at *; exact hB1)).symm,cloL_ro _ hB1⟩)
  ·have hji:j=i:=by omega
   subst hji
   have lA:((aW j v).map hA).length=j:=by rw [List.length_map,gH]
   have lC:((aX j v).map hA).length=j:=by rw [List.length_map,gJ]
   have hb:iO hZ ((aW j v).map hA) ((aX j v).map hA) j j=(aW j v).map hA++(aX j v).map hA:=by
    unfold iO; rw [n9 lA]; simp
   rw [hb,List.take_append_of_le_length (by omega),List.take_of_length_le (by omega),List.drop_append_of_le_length (by omega),List.drop_of_length_le (by omega),List.nil_append,List.take_of_length_le (by omega)]
   refine ⟨⟨rfl,rfl⟩,?_,?_⟩<;>simp [gH,gJ]
theorem CC {a b:Rat} (ha:0<a) (hb:0<b):0<br a b:=by unfold br dW; grind
theorem uf:∀ {l:List HQ},(∀h∈l,0<h.w)→∀h∈iy l,0<h.w
 | [],_,h,hh=>by simp [iy] at hh
 | [_],_,h,hh=>by simp [iy] at hh
 | a::b::r,hl,h,hh=>by
  simp only [iy,List.mem_cons] at hh
  rcases hh with rfl|hh
  ·exact CC (hl a (by simp)) (hl b (by simp))
  ·exact uf (fun x hx=>hl x (by simp only [List.mem_cons] at hx ⊢; exact .inr hx)) h hh
theorem uP {l:List HQ} (hl:∀h∈l,0<h.w) (i:Nat):∀h∈cS i l,0<h.w:=by
 induction i with
 | zero=>exact hl
 | succ i ih=>exact uf ih
theorem dR {l:List HQ} (h:0<l.length):l.headD hQ0∈l:=by cases l with|nil=>simp at h|cons a r=>simp
theorem dj {l:List HQ} (h:0<l.length):l.getLastD hQ0∈l:=by
 have hne:l≠[]:=by intro h0; subst h0; simp at h
 rw [List.getLastD_eq_getLast?,List.getLast?_eq_some_getLast hne]; exact List.getLast_mem hne
theorem rG {l:List HQ} (k:Nat) (hk:k≤l.length):(∀h∈aW k l,∃i,i<k∧h∈cS i l)∧∀h∈aX k l,∃i,i<k∧h∈cS i l:=by
 induction k with
 | zero=>exact ⟨fun h hh=>by simp [aW] at hh,fun h hh=>by simp [aX] at hh⟩
 | succ k ih =>
  obtain ⟨h1,h2⟩:=ih (by omega)
  have hlen:0<(cS k l).length:=by rw [o9]; omega
  constructor
  ·intro h hh
   simp only [aW,List.mem_append,List.mem_singleton] at hh
   rcases hh with hh|rfl
   ·obtain ⟨i,hi,hm⟩:=h1 h hh; exact ⟨i,by omega,hm⟩
   ·exact ⟨k,by omega,dR hlen⟩
  ·intro h hh
   simp only [aX,List.mem_cons] at hh
   rcases hh with rfl|hh
   ·exact ⟨k,by omega,dj hlen⟩
   ·obtain ⟨i,hi,hm⟩:=h2 h hh; exact ⟨i,by omega,hm⟩
theorem Br {l:List HQ} (h:bX l):bX (aW l.length l)∧bX (aX l.length l):=by
 obtain ⟨h1,h2,h3⟩:=h
 obtain ⟨m1,m2⟩:=rG (l:=l) l.length (Nat.le_refl _)
 refine ⟨⟨fun x hx=>?_,by rw [gH]; exact h2,by rw [gH]; exact h3⟩,⟨fun x hx=>?_,by rw [gJ]; exact h2,by rw [gJ]; exact h3⟩⟩
 ·obtain ⟨i,_,hm⟩:=m1 x hx; exact uP h1 i x hm
 ·obtain ⟨i,_,hm⟩:=m2 x hx; exact uP h1 i x hm
@[go_sem] theorem sL (ls:List (List HQ)):roL (ls.map qL):=bC yG
@[go_sem] theorem Mv (rn:Nat→Nat) (l:List (List HQ)):renL rn (l.map qL)=l.map qL:=renL_ro rn _ (sL l)
@[go_sem] theorem LI (n:Nat) (l:List (List HQ)):cloL n (l.map qL):=cloL_ro _ (sL l)
@[go_sem] theorem J4 (f:Nat→BS) (l:List (List HQ)):fitsL f (l.map qL):=fitsL_ro f _ (sL l)
@[go_sem] theorem Le (f:Nat→BS) (l:List (List HQ)):viewL f (l.map qL)=l.map qL:=viewL_ro f _ (sL l)
theorem bU (p:List HQ):(p.map hc).map HR.val=p:=by
 rw [List.map_map]
 conv=>rhs; rw [←List.map_id p]
 exact List.map_congr_left fun x _=>rV x
def uH (l:List PQ):List (PQ×PQ):=((List.range l.length).map fun i=>(l.getD i ⟨0,0⟩,l.getD ((i+1)%l.length) ⟨0,0⟩)).filter fun e=>decide (e.1.y≠e.2.y)
section
variable {H:Type} {enc:TypeId×Value→H} {w:World}
def RQ.Lm (z:RQ):Prop:=bu 18446744073709551616 z.p∧bu 18446744073709551616 z.q
def PR.Lm (c:PR):Prop:=c.x.Lm∧c.y.Lm
def RQ.cs (z:RQ):List AV:=[.bool z.neg,nA z.p,nA z.q]
end
open Go.ChangeShapes Go.WideShapes Go.ChangeAt Go.RowKit
theorem Tryz.own:ownKnob Tryz.prog.godebug=none:=by kernel_rfl
theorem Tryz.laidOut:laidOutB Tryz.prog=true:=by kernel_rfl
theorem Tryz.underBool:Tryz.prog.underlying 4=some .bool:=by kernel_rfl
theorem q8 {P:Program} {W:World} {r:Reach} {b:Nat} {t e:TypeId} {v:Value} (ht:P.underlying t=some (.slice e)) (h:Value.okWide P W r b t v):v.cells = #[v]:=by
 unfold Value.okWide at h
 rw [ht] at h
 cases v<;>first|rfl|(simp [Cell.okWide,Cell.ok,ht] at h; done)
theorem Dd {cx:Cx} {a:AV} {v:Value} (hc:v.cells = #[v]) (h:Rl cx [a] v.cells.toList):Rl cx [a] [v]:=by
 rw [hc] at h
 exact h
section
variable {H:Type} {enc:TypeId×Value→H} {P:Program} {w:World}
def He:Nat→List (TypeId×Nat)→List (Nat×TypeId)
 | _,[]=>[]
 | n,(t,k)::r=>(n,t)::He (n+k) r
def pU:List (TypeId×Nat)→Nat
 | []=>0
 | (_,k)::r=>k+pU r
def Gf:List (TypeId×Nat×(List AV→Prop))→List AV→Prop
 | [],l=>l=[]
 | (_,_,Q)::r,l=>∃a b,l=a++b∧Q a∧Gf r b
theorem qK {cs:List Value}:∀(fs:List (TypeId×Nat×(List AV→Prop))) (off:Nat),(∀f∈fs,lD enc P w f.1 f.2.2) →
 (∀(i:Nat) (o:Nat) (t:TypeId),(He off (fs.map fun f=>(f.1,f.2.1)))[i]?=some (o,t)→∃m x,DataW.trod enc P w 0 (fun _=>true) true m t ((cs.drop o).take (P.cellsOf t))=some x) →
 fs.map (fun f=>P.cellsOf f.1)=fs.map (fun f=>f.2.1) →
 ∃l,Gf fs l∧(∀cx:Cx,cx.w=w→(∀b,¬cx.F b)→Rl cx l ((cs.drop off).take (pU (fs.map fun f=>(f.1,f.2.1)))))∧∀u∈(cs.drop off).take (pU (fs.map fun f=>(f.1,f.2.1))),u.oneCell'=true
 | [],off,_,_,_=>⟨[],rfl,fun cx _ _=>by simp [pU,Rl],by simp [pU]⟩
 | (t,k,Q)::r,off,ho,hp,hc=>by
  simp only [List.map_cons,List.cons.injEq] at hc
  obtain ⟨m,x,hx⟩:=hp 0 off t rfl
  rw [hc.1] at hx
  obtain ⟨a,a1,a2,a3⟩:=ho (t,k,Q) (by simp) _ _ _ hx
  obtain ⟨b,b1,b2,b3⟩:=qK r (off+k) (fun f hf=>ho f (by simp [hf])) (fun i o t' h=>hp (i+1) o t' h) hc.2
  have e:(cs.drop off).take (k+pU (r.map fun f=>(f.1,f.2.1)))=(cs.drop off).take k++(cs.drop (off+k)).take (pU (r.map fun f=>(f.1,f.2.1))):=by
   rw [List.take_add,List.drop_drop]
  refine ⟨a++b,⟨a,b,rfl,a1,b1⟩,fun cx e1 e2=>?_,fun u hu=>?_⟩
  ·simp only [List.map_cons,pU]; rw [e]; exact (a2 cx e1 e2).append (b2 cx e1 e2)
  ·simp only [List.map_cons,pU] at hu
   rw [e] at hu
   rcases List.mem_append.1 hu with h|h
   ·exact a3 u h
   ·exact b3 u h
theorem C0 {t:TypeId} (fs:List (TypeId×Nat×(List AV→Prop))) (ht:Fh P t=some (He 0 (fs.map fun f=>(f.1,f.2.1)))) (hc:fs.map (fun f=>P.cellsOf f.1)=fs.map (fun f=>f.2.1)) (hn:P.cellsOf t=pU (fs.map fun f=>(f.1,f.2.1)))
 (ho:∀f∈fs,lD enc P w f.1 f.2.2):lD enc P w t (Gf fs):=fun fuel cs x h=>by
 obtain ⟨gs,k1,k2⟩:=q9 ht
 obtain ⟨xs,m,_,rfl,hl,hlen,hf⟩:=DataW.trod_struct k1 h
 obtain ⟨l,l1,l2,l3⟩:=qK (cs:=cs) fs 0 ho (fun i o t' hi=>by
  rw [←k2,List.getElem?_map] at hi
  cases hg:gs.toList[i]? with
  | none=>rw [hg] at hi; cases hi
  | some g =>
   rw [hg] at hi
   simp only [Option.map_some,Option.some.injEq,Prod.mk.injEq] at hi
   obtain ⟨rfl,rfl⟩:=hi
   have h1:=hf i g (by simpa using hg)
   have hlt:i<gs.size:=by simpa using (List.getElem?_eq_some_iff.1 hg).1
   rw [List.getElem?_eq_getElem (by omega)] at h1
   exact ⟨_,_,h1⟩) hc
 rw [List.drop_zero,List.take_of_length_le (by omega)] at l2 l3
 exact ⟨l,l1,l2,l3⟩
def DP (Q:List AV→Prop):Nat→List AV→Prop
 | 0,l=>l=[]
 | n+1,l=>∃a b,l=a++b∧Q a∧DP Q n b
theorem EY {t e:TypeId} {n k:Nat} {Q:List AV→Prop} (ht:P.underlying t=some (.array n e)) (hc:(P.cellsOf e,P.cellsOf t)=(k,n*k)) (ho:lD enc P w e Q):lD enc P w t (DP Q n):=fun fuel cs x h=>by
 simp only [Prod.mk.injEq] at hc
 obtain ⟨hc1,hc2⟩:=hc
 obtain ⟨xs,m,_,rfl,hl,hlen,hf⟩:=DataW.trod_array ht h
 have key:∀j i,i+j=n→∃l,DP Q j l∧(∀cx:Cx,cx.w=w→(∀b,¬cx.F b)→Rl cx l (cs.drop (i*k)))∧∀u∈cs.drop (i*k),u.oneCell'=true:=by
  intro j
  induction j with
  | zero =>
   intro i hi
   have:cs.drop (i*k)=[]:=by
    rw [List.drop_eq_nil_iff,hl,hc2,show i=n by omega]
    exact Nat.le_refl _
   exact ⟨[],rfl,fun cx _ _=>by rw [this]; simp [Rl],by rw [this]; simp⟩
  | succ j ih =>
   intro i hi
   obtain ⟨b,b1,b2,b3⟩:=ih (i+1) (by omega)
   have h1:=hf i (by omega)
   rw [List.getElem?_eq_getElem (by omega),hc1] at h1
   obtain ⟨a,a1,a2,a3⟩:=ho _ _ _ h1
   have e:cs.drop (i*k)=(cs.drop (i*k)).take k++cs.drop ((i+1)*k):=by
    conv=>lhs; rw [←List.take_append_drop k (cs.drop (i*k)),List.drop_drop]
    rw [Nat.add_mul,Nat.one_mul]
   refine ⟨a++b,⟨a,b,rfl,a1,b1⟩,fun cx e1 e2=>?_,fun u hu=>?_⟩
   ·rw [e]; exact (a2 cx e1 e2).append (b2 cx e1 e2)
   ·rw [e] at hu
    rcases List.mem_append.1 hu with h|h
    ·exact a3 u h
    ·exact b3 u h
 obtain ⟨l,l1,l2,l3⟩:=key n 0 (by omega)
 rw [Nat.zero_mul,List.drop_zero] at l2 l3
 exact ⟨l,l1,l2,l3⟩
end
section
variable {H:Type} {enc:TypeId×Value→H} {w:World}
end
theorem KY (x y:Rat) (hx:sz x≤17179869184) (hy:sz y≤17179869184) (h0:y≠0):ab Tryz.prog 130 [rA x,rA y] (.tup [rA (x / y),.int .i64 0]):=by
 have h:=jC (qc x) (qc y) (fT hx) (fT hy)
 rw [cd,cd,if_neg h0] at h; exact h
theorem Hy (x:Rat) (hx:sz x≤17179869184):ab Tryz.prog 34 [rA x] (.int .i64 (cP x)):=by
 have h:=dO (qc x) (fT hx).ok
 rw [cd] at h; exact h
theorem C8 (x y:Rat) (hx:sz x≤17179869184) (hy:sz y≤17179869184):ab Tryz.prog 31 [rA x,rA y] (.int .i64 (bW x y)):=by
 have h:=jB (qc x) (qc y) (fT hx) (fT hy)
 rw [cd,cd] at h; exact h
def rC (x:Rat):List AV:=[.bool (qc x).neg,nA (qc x).p,nA (qc x).q]
theorem eV (x:Rat):rA x = .agg (rC x):=rfl
@[go_sem] theorem NJ (x:Rat):(rC x).length=3:=rfl
@[go_sem] theorem Mn (x:Rat):(rC x).take 3=rC x:=rfl
@[go_sem] theorem Mm (x:Rat):(rC x).drop 3=[]:=rfl
@[go_sem] theorem jR (x:Rat):roL (rC x):=by unfold rC; simp -implicitDefEqProofs [go_sem]
@[go_sem] theorem Nc (n:Nat) (x:Rat):cloL n (rC x):=cloL_ro _ (jR x)
@[go_sem] theorem NP (rn:Nat→Nat) (x:Rat):renL rn (rC x)=rC x:=renL_ro rn _ (jR x)
@[go_sem] theorem LW (f:Nat→BS) (x:Rat):fitsL f (rC x):=fitsL_ro f _ (jR x)
@[go_sem] theorem MO (f:Nat→BS) (x:Rat):viewL f (rC x)=rC x:=viewL_ro f _ (jR x)
def pC (p:PQ):List AV:=[.bool (qc p.x).neg,nA (qc p.x).p,nA (qc p.x).q,.bool (qc p.y).neg,nA (qc p.y).p,nA (qc p.y).q]
theorem cE (p:PQ):pA p = .agg (pC p):=rfl
@[go_sem] theorem NI (p:PQ):(pC p).length=6:=rfl
@[go_sem] theorem Ml (p:PQ):(pC p).take 6=pC p:=rfl
@[go_sem] theorem Mk (p:PQ):(pC p).drop 6=[]:=rfl
@[go_sem] theorem KP (p:PQ):(pC p).take 3=rC p.x:=rfl
@[go_sem] theorem KO (p:PQ):(pC p).drop 3=rC p.y:=rfl
@[go_sem] theorem gZ (p:PQ):roL (pC p):=by unfold pC; simp -implicitDefEqProofs [go_sem]
@[go_sem] theorem Na (n:Nat) (p:PQ):cloL n (pC p):=cloL_ro _ (gZ p)
@[go_sem] theorem NN (rn:Nat→Nat) (p:PQ):renL rn (pC p)=pC p:=renL_ro rn _ (gZ p)
@[go_sem] theorem LU (f:Nat→BS) (p:PQ):fitsL f (pC p):=fitsL_ro f _ (gZ p)
@[go_sem] theorem MN (f:Nat→BS) (p:PQ):viewL f (pC p)=pC p:=viewL_ro f _ (gZ p)
theorem KR (p q:PQ) (hp:p.sz≤17179869184) (hq:q.sz≤17179869184):ab Tryz.prog 97 [pA p,pA q] (pA (p.add q)):=by
 have h:=jz (pc p) (pc q) (cF hp) (cF hq)
 rw [bJ,bJ] at h; exact h
theorem KV (p q:PQ) (hp:p.sz≤17179869184) (hq:q.sz≤17179869184):ab Tryz.prog 125 [pA p,pA q] (pA (p.sub q)):=by
 have h:=fE (pc p) (pc q) (cF hp) (cF hq)
 rw [bJ,bJ] at h; exact h
theorem E7 (p:PQ) (k:Rat) (hp:p.sz≤17179869184) (hk:sz k≤17179869184):ab Tryz.prog 124 [pA p,rA k] (pA (p.scale k)):=by
 have h:=gg (pc p) (qc k) (cF hp) (gh hk)
 rw [bJ,cd] at h; exact h
theorem KT (p q:PQ) (t:Rat) (hp:p.sz≤1073741824) (hq:q.sz≤1073741824) (ht:sz t≤1073741824):ab Tryz.prog 55 [pA p,pA q,rA t] (pA (p.mix q t)):=by
 have h:=Ay (pc p) (pc q) (qc t) (cF hp) (cF hq) (gh ht)
 rw [bJ,bJ,cd] at h; exact h
theorem C4 (a b c:PQ) (ha:a.sz≤1073741824) (hb:b.sz≤1073741824) (hc:c.sz≤1073741824):ab Tryz.prog 127 [pA a,pA b,pA c] (.int .i64 (PQ.orient a b c)):=by
 have h:=sE (pc a) (pc b) (pc c) (cF ha) (cF hb) (cF hc)
 rw [bJ,bJ,bJ] at h; exact h
def pL (l:List PQ):AV := .sl 6 false (l.map pA)
@[go_sem] theorem c8 (l:List PQ):roL (l.map pA):=bC ji
theorem li (l:List PQ):ro (pL l):=by unfold pL; simp only [ro]; exact c8 l
@[go_sem] theorem Mu (rn:Nat→Nat) (l:List PQ):renL rn (l.map pA)=l.map pA:=renL_ro rn _ (c8 l)
@[go_sem] theorem LH (n:Nat) (l:List PQ):cloL n (l.map pA):=cloL_ro _ (c8 l)
@[go_sem] theorem J3 (f:Nat→BS) (l:List PQ):fitsL f (l.map pA):=fitsL_ro f _ (c8 l)
@[go_sem] theorem Ld (f:Nat→BS) (l:List PQ):viewL f (l.map pA)=l.map pA:=viewL_ro f _ (c8 l)
theorem kN {l:List PQ} {i:Nat} (h:i<l.length):bk (l.map pA) (i:Int) = .agg (pC l[i]):=by
 simp [bk,List.getD_eq_getElem?_getD,h,cE]
theorem iz (p:PQ) (h:p.sz≤17179869184):ab Tryz.prog 33 [pA p,pA p] (.bool true):=by
 have:=gc p p h h
 rwa [decide_eq_true rfl] at this
mutual
def Ni (g:Nat) (l:List AV):AV→AV
 | .own sz id off len=>if id=g∧off+len≤l.length then .sl sz false ((l.drop off).take len) else .own sz id off len
 | .agg cs => .agg (frnL g l cs)
 | a=>a
def frnL (g:Nat) (l:List AV):List AV→List AV
 | []=>[]
 | a::r=>Ni g l a::frnL g l r
end
def Nj (g:Nat) (l:List AV) (j:Nat) (b:BS):BS:=if j=g then .dead else match b with
 | .live sz m => .live sz (m.map (Ni g l))
 | b=>b
attribute [go_sem] Ni frnL Nj
open Go Go.Proofs
set_option linter.unusedSimpArgs false
set_option linter.unusedVariables false
set_option maxRecDepth 20000
@[go_sem] theorem MY (x y:Rat):rC x++(rC y++List.drop 6 (rC x++[AV.bool false,AV.sl 0 true [],AV.sl 0 true []]))=pC ⟨x,y⟩:=rfl
def fC (x:Rat):List AV:=[.bool (decide (x.num<0)),qA x.num.natAbs,qA x.den]
theorem co (x:Rat):fA x = .agg (fC x):=rfl
@[go_sem] theorem Ng (x:Rat):(fC x).length=3:=rfl
@[go_sem] theorem LQ (x:Rat):(fC x).take 3=fC x:=rfl
@[go_sem] theorem LO (x:Rat):(fC x).drop 3=[]:=rfl
@[go_sem] theorem lh (x:Rat):roL (fC x):=by have:=fU x; rw [co] at this; simpa only [ro] using this
@[go_sem] theorem M9 (n:Nat) (x:Rat):cloL n (fC x):=cloL_ro _ (lh x)
@[go_sem] theorem NL (rn:Nat→Nat) (x:Rat):renL rn (fC x)=fC x:=renL_ro rn _ (lh x)
@[go_sem] theorem LS (f:Nat→BS) (x:Rat):fitsL f (fC x):=fitsL_ro f _ (lh x)
@[go_sem] theorem ML (f:Nat→BS) (x:Rat):viewL f (fC x)=fC x:=viewL_ro f _ (lh x)
def eC (p:PQ):List AV:=[.bool (decide (p.x.num<0)),qA p.x.num.natAbs,qA p.x.den,.bool (decide (p.y.num<0)),qA p.y.num.natAbs,qA p.y.den]
theorem bR (p:PQ):eA p = .agg (eC p):=rfl
@[go_sem] theorem Nf (p:PQ):(eC p).length=6:=rfl
@[go_sem] theorem LN (p:PQ):(eC p).take 6=eC p:=rfl
@[go_sem] theorem LM (p:PQ):(eC p).drop 6=[]:=rfl
@[go_sem] theorem JW (p:PQ):(eC p).take 3=fC p.x:=rfl
@[go_sem] theorem JV (p:PQ):(eC p).drop 3=fC p.y:=rfl
@[go_sem] theorem qS (p:PQ):roL (eC p):=by have:=mT p; rw [bR] at this; simpa only [ro] using this
@[go_sem] theorem M8 (n:Nat) (p:PQ):cloL n (eC p):=cloL_ro _ (qS p)
@[go_sem] theorem NK (rn:Nat→Nat) (p:PQ):renL rn (eC p)=eC p:=renL_ro rn _ (qS p)
@[go_sem] theorem LR (f:Nat→BS) (p:PQ):fitsL f (eC p):=fitsL_ro f _ (qS p)
@[go_sem] theorem MK (f:Nat→BS) (p:PQ):viewL f (eC p)=eC p:=viewL_ro f _ (qS p)
@[go_sem] theorem Lv (x y:Rat):fC x++(fC y++List.drop 6 (fC x++[AV.bool false,AV.sl 0 true [],AV.sl 0 true []]))=eC ⟨x,y⟩:=rfl
def eL (l:List PQ):AV := .sl 6 false (l.map eA)
@[go_sem] theorem cR (l:List PQ):roL (l.map eA):=bC mT
@[go_sem] theorem Mo (rn:Nat→Nat) (l:List PQ):renL rn (l.map eA)=l.map eA:=renL_ro rn _ (cR l)
@[go_sem] theorem LB (n:Nat) (l:List PQ):cloL n (l.map eA):=cloL_ro _ (cR l)
@[go_sem] theorem JZ (f:Nat→BS) (l:List PQ):fitsL f (l.map eA):=fitsL_ro f _ (cR l)
@[go_sem] theorem K_ (f:Nat→BS) (l:List PQ):viewL f (l.map eA)=l.map eA:=viewL_ro f _ (cR l)
theorem dH (p:PQ) {n:Nat} (h:p.sz≤n):sz p.x≤n∧sz p.y≤n:=⟨Nat.le_trans p.sz_x h,Nat.le_trans p.sz_y h⟩
def RQ.sml (z:RQ) (m:Nat):Prop:=z.p.length≤m∧z.q.length≤m
instance (z:RQ) (m:Nat):Decidable (z.sml m):=inferInstanceAs (Decidable (_∧_))
theorem sR (c:PR) (m:Nat):ab Tryz.prog 79 [c.av,.int .i64 m] (.bool (decide (c.x.sml m∧c.y.sml m))):=by
 have h1:=sQ c.x m
 have h2:=sQ c.y m
 change ab _ _ _ (.bool (decide (c.x.sml m))) at h1
 change ab _ _ _ (.bool (decide (c.y.sml m))) at h2
 refine Pg Tryz.func79 rfl [.tmp 4] rfl (by simp -implicitDefEqProofs [go_sem]) ?_
 unfold PR.av RQ.av at *
 simp -implicitDefEqProofs [go_sem]
 refine ag h1 ?_
 by_cases a1:c.x.sml m
 ·simp -implicitDefEqProofs [go_sem,a1]
  refine ag h2 ?_
  by_cases a2:c.y.sml m
  ·simp -implicitDefEqProofs [go_sem,a2]
  ·simp -implicitDefEqProofs [go_sem,a2]
 ·simp -implicitDefEqProofs [go_sem,a1]
theorem tO (z:RQ) (hz:z.In 17179869184):ab Tryz.prog 19 [z.av] (fA z.val):=BF z hz.sm.ok (by
 have:nl z.num.natAbs≤z.p.length:=by unfold RQ.num; rw [dl]; exact qF hz.limp
 have:=hz.lp; omega) (by
 have:nl z.den≤max 1 z.q.length:=by
  unfold RQ.den; split
  ·rw [je]; omega
  ·have:=qF hz.limq; omega
 have:=hz.lq; omega)
theorem iE {z:RQ} {m:Nat} (h:z.sml m) (hl:z.Lm):z.In m:=⟨h.1,hl.1,h.2,hl.2⟩
def Gh (c:PR) (h tol:RQ):Prop:=(c.x.sml 1∧c.y.sml 1)∧h.sml 1∧tol.sml 1∧(h.val≤0∨tol.val≤0∨h.val≤tol.val*400)
instance (c:PR) (h tol:RQ):Decidable (Gh c h tol):=inferInstanceAs (Decidable (_∧_))
def gA (h:HQ):AV := .agg [.bool (decide (h.x.num<0)),qA h.x.num.natAbs,qA h.x.den,.bool (decide (h.y.num<0)),qA h.y.num.natAbs,qA h.y.den,.bool (decide (h.w.num<0)),qA h.w.num.natAbs,qA h.w.den]
theorem qT (h:HQ):ro (gA h):=by unfold gA qA; simp -implicitDefEqProofs [go_sem]
def gL (l:List HQ):AV := .sl 9 false (l.map gA)
@[go_sem] theorem gv (l:List HQ):roL (l.map gA):=bC qT
theorem qU (l:List HQ):ro (gL l):=by unfold gL; simp only [ro]; exact gv l
@[go_sem] theorem Mr (rn:Nat→Nat) (l:List HQ):renL rn (l.map gA)=l.map gA:=renL_ro rn _ (gv l)
@[go_sem] theorem LE (n:Nat) (l:List HQ):cloL n (l.map gA):=cloL_ro _ (gv l)
@[go_sem] theorem J0 (f:Nat→BS) (l:List HQ):fitsL f (l.map gA):=fitsL_ro f _ (gv l)
@[go_sem] theorem La (f:Nat→BS) (l:List HQ):viewL f (l.map gA)=l.map gA:=viewL_ro f _ (gv l)
def aT (a b t:Rat):Rat:=a*(1-t)+b*t
def HQ.mixT (a b:HQ) (t:Rat):HQ:=⟨aT a.x b.x t,aT a.y b.y t,aT a.w b.w t⟩
theorem mG (h:HR) (hs:h.In 17179869184) (h0:h.w.val≠0):ab Tryz.prog 262 [h.av] (.tup [pA ⟨h.x.val / h.w.val,h.y.val / h.w.val⟩,.int .i64 0]):=by
 have h1:=jC h.x h.w hs.x.sm hs.w.sm
 have h2:=jC h.y h.w hs.y.sm hs.w.sm
 rw [if_neg h0] at h1 h2
 unfold pA pc PR.av
 simp only
 generalize h.x.val / h.w.val=r1 at *
 generalize h.y.val / h.w.val=r2 at *
 refine Pg Tryz.func262 rfl [.cell 2 72,.tmp 3] rfl (by simp -implicitDefEqProofs [go_sem]) ?_
 unfold HR.av rA RQ.av at *
 generalize qc r1=c1 at *
 generalize qc r2=c2 at *
 simp -implicitDefEqProofs [go_sem]
 refine ag h1 ?_
 simp -implicitDefEqProofs [go_sem]
 refine ag h2 ?_
 simp -implicitDefEqProofs [go_sem,aS]
def HR.cs (h:HR):List AV:=[.bool h.x.neg,nA h.x.p,nA h.x.q,.bool h.y.neg,nA h.y.p,nA h.y.q,.bool h.w.neg,nA h.w.p,nA h.w.q]
theorem HR.av_cs (h:HR):h.av = .agg h.cs:=rfl
theorem HR.cs_len (h:HR):h.cs.length=9:=rfl
theorem HR.cs_take (h:HR):h.cs.take 9=h.cs:=rfl
theorem HR.cs_drop (h:HR):h.cs.drop 9=[]:=rfl
@[go_sem] theorem HR.ro_cs (h:HR):roL h.cs:=by have:=oY h; rw [HR.av_cs] at this; simpa only [ro] using this
@[go_sem] theorem HR.clo_cs (n:Nat) (h:HR):cloL n h.cs:=cloL_ro _ h.ro_cs
@[go_sem] theorem HR.ren_cs (rn:Nat→Nat) (h:HR):renL rn h.cs=h.cs:=renL_ro rn _ h.ro_cs
attribute [go_sem] HR.cs_len HR.cs_take HR.cs_drop
theorem xX {l:List HR} {i:Nat} (h:i<l.length):bk (l.map HR.av) (i:Int) = .agg (l[i]).cs:=nv h
theorem BO {l:List HR} (h:0<l.length):bk (l.map HR.av) 0 = .agg (l[0]).cs:=nv (i:=0) h
@[go_sem] theorem K3 (sz:Nat) (a:AV) (l:List AV):slv sz (a::l) = .sl sz false (a::l):=rfl
def HQ.P (h:HQ):PQ:=⟨h.x / h.w,h.y / h.w⟩
theorem HQ.ext {a b:HQ} (h1:a.x=b.x) (h2:a.y=b.y) (h3:a.w=b.w):a=b:=by cases a; cases b; simp_all
theorem FL {α:Type} {l:List α} (h:l.length=2):∃a b,l=[a,b]:=by
 match l,h with
 | [a,b],_=>exact ⟨a,b,rfl⟩
theorem FM {α:Type} {l:List α} (h:l.length=3):∃a b c,l=[a,b,c]:=by
 match l,h with
 | [a,b,c],_=>exact ⟨a,b,c,rfl⟩
theorem FN {α:Type} {l:List α} (h:l.length=4):∃a b c d,l=[a,b,c,d]:=by
 match l,h with
 | [a,b,c,d],_=>exact ⟨a,b,c,d,rfl⟩
theorem OW (a b c:HQ):aW 3 [a,b,c]=[a,a.mid b,(a.mid b).mid (b.mid c)]:=rfl
theorem OY (a b c:HQ):aX 3 [a,b,c]=[(a.mid b).mid (b.mid c),b.mid c,c]:=rfl
theorem OX (a b c d:HQ):aW 4 [a,b,c,d]=[a,a.mid b,(a.mid b).mid (b.mid c),((a.mid b).mid (b.mid c)).mid ((b.mid c).mid (c.mid d))]:=rfl
theorem OZ (a b c d:HQ):aX 4 [a,b,c,d]=[((a.mid b).mid (b.mid c)).mid ((b.mid c).mid (c.mid d)),(b.mid c).mid (c.mid d),c.mid d,d]:=rfl
theorem hl2 (t a b:Rat):aT a (br a b) t=aT a b (t / 2):=by unfold aT br dW; grind
theorem hr2 (t a b:Rat):aT (br a b) b t=aT a b ((1+t) / 2):=by unfold aT br dW; grind
theorem N8 (t a b c:Rat):aT (aT a (br a b) t) (aT (br a b) (br (br a b) (br b c)) t) t=aT (aT a b (t / 2)) (aT b c (t / 2)) (t / 2):=by
 unfold aT br dW; grind
theorem hr3 (t a b c:Rat):aT (aT (br (br a b) (br b c)) (br b c) t) (aT (br b c) c t) t=aT (aT a b ((1+t) / 2)) (aT b c ((1+t) / 2)) ((1+t) / 2):=by
 unfold aT br dW; grind
theorem hr4 (t a b c d:Rat):aT (aT (aT (br (br (br a b) (br b c)) (br (br b c) (br c d))) (br (br b c) (br c d)) t) (aT (br (br b c) (br c d)) (br c d) t) t) (aT (aT (br (br b c) (br c d)) (br c d) t) (aT (br c d) d t) t) t =
 aT (aT (aT a b ((1+t) / 2)) (aT b c ((1+t) / 2)) ((1+t) / 2)) (aT (aT b c ((1+t) / 2)) (aT c d ((1+t) / 2)) ((1+t) / 2)) ((1+t) / 2):=by
 unfold aT br dW; grind
theorem CF {a b t:Rat} (ha:0<a) (hb:0<b) (h0:0≤t) (h1:t≤1):0<aT a b t:=by
 unfold aT
 rcases Rat.le_iff_lt_or_eq.1 h0 with h|h
 ·have h2:0<b*t:=Rat.mul_pos hb h
  have h3:0≤a*(1-t):=Rat.mul_nonneg (Rat.le_of_lt ha) (by grind)
  grind
 ·subst h; grind
theorem HQ.sz_P (h:HQ):h.P.sz≤2*h.sz:=by
 have:=h.sz_x; have:=h.sz_y; have:=h.sz_w
 have:=mr h.x h.w; have:=mr h.y h.w
 unfold HQ.P PQ.sz
 simp only
 omega
def mX (p a b:PQ):Rat :=
 if (b.sub a).dot (b.sub a)=0 then p.far a
 else if (p.sub a).dot (b.sub a) / (b.sub a).dot (b.sub a)<0 then p.far a
 else if 1<(p.sub a).dot (b.sub a) / (b.sub a).dot (b.sub a) then p.far b
 else p.far (a.mix b ((p.sub a).dot (b.sub a) / (b.sub a).dot (b.sub a)))
theorem rK (p a b:PQ) (s:Rat):p.far (a.mix b s)=p.far a-2*s*(p.sub a).dot (b.sub a)+s*s*(b.sub a).dot (b.sub a):=by
 unfold PQ.far PQ.mix PQ.dot PQ.sub PQ.add PQ.scale; simp only; grind
theorem nz (a b:PQ):a.mix b 1=b:=by
 unfold PQ.mix PQ.sub PQ.add PQ.scale
 exact PQ.ext (by simp only; grind) (by simp only; grind)
theorem kT (a b:PQ):a.mix b 0=a:=by
 unfold PQ.mix PQ.sub PQ.add PQ.scale
 exact PQ.ext (by simp only; grind) (by simp only; grind)
theorem PQ.dot0 {d:PQ} (h:d.dot d=0):d.x=0∧d.y=0:=by
 unfold PQ.dot at h
 have h1:=jl d.x; have h2:=jl d.y
 have e1:d.x*d.x=0:=by grind
 have e2:d.y*d.y=0:=by grind
 exact ⟨by rcases Rat.mul_eq_zero.1 e1 with h|h<;>exact h,by rcases Rat.mul_eq_zero.1 e2 with h|h<;>exact h⟩
theorem HN (p a b:PQ):∃s,0≤s∧s≤1∧mX p a b=p.far (a.mix b s):=by
 unfold mX
 split
 ·exact ⟨0,by grind,by grind,by rw [kT]⟩
 ·split
  ·exact ⟨0,by grind,by grind,by rw [kT]⟩
  ·split
   ·exact ⟨1,by grind,by grind,by rw [nz]⟩
   ·exact ⟨_,by grind,by grind,rfl⟩
theorem HO (p a b : PQ) {s : Rat} (h0 : 0 ≤ s) (h1 : s ≤ 1) : mX p a b ≤ p.far (a.mix b s) := by
  have hD : 0 ≤ (b.sub a).dot (b.sub a) := by
    have h1 := jl (b.sub a).x; have h2 := jl (b.sub a).y
    unfold PQ.dot; grind
  rw [rK p a b s]
  unfold mX
  split
  · rename_i h
    have := PQ.dot0 h
    have e : (p.sub a).dot (b.sub a) = 0 := by conv => lhs; unfold PQ.dot
                                               rw [this.1, this.2]; grind
    rw [h, e]; grind
  · rename_i hne
    have hp : 0 < (b.sub a).dot (b.sub a) := by grind
    have e : (p.sub a).dot (b.sub a) = ((p.sub a).dot (b.sub a) / (b.sub a).dot (b.sub a)) * (b.sub a).dot (b.sub a) := by grind
    split
    · rename_i h
      generalize (p.sub a).dot (b.sub a) / (b.sub a).dot (b.sub a) = t at *
      rw [e]
      generalize (b.sub a).dot (b.sub a) = D at *
      have := Rat.mul_nonneg (Rat.mul_nonneg h0 hD) (show 0 ≤ s - 2 * t by grind)
      grind
    · split
      · rename_i h
        have fb : p.far b = p.far a - 2 * 1 * (p.sub a).dot (b.sub a) + 1 * 1 * (b.sub a).dot (b.sub a) := by rw [← rK, nz]
        rw [fb]
        generalize (p.sub a).dot (b.sub a) / (b.sub a).dot (b.sub a) = t at *
        rw [e]
        generalize (b.sub a).dot (b.sub a) = D at *
        have := Rat.mul_nonneg (Rat.mul_nonneg (show 0 ≤ 1 - s by grind) hD) (show 0 ≤ 2 * t - s - 1 by grind)
        grind
      · rw [rK p a b ((p.sub a).dot (b.sub a) / (b.sub a).dot (b.sub a))]
        generalize (p.sub a).dot (b.sub a) / (b.sub a).dot (b.sub a) = t at *
        rw [e]
        generalize (b.sub a).dot (b.sub a) = D at *
        have := Rat.mul_nonneg (jl (s - t)) hD
        grind
theorem sz_far (p q:PQ) {n m:Nat} (hp:p.sz≤n) (hq:q.sz≤m):sz (p.far q)≤4*(n+m+1)+1:=by
 have:=PQ.sz_far p q; omega
theorem sZ {p a b:PQ} {n:Nat} (hp:p.sz≤n) (ha:a.sz≤n) (hb:b.sz≤n):sz (mX p a b)≤80*n+60:=by
 have z1:=PQ.sz_sub b a
 have z2:=PQ.sz_sub p a
 have z3:=PQ.sz_dot (p.sub a) (b.sub a)
 have z4:=PQ.sz_dot (b.sub a) (b.sub a)
 have z5:=mr ((p.sub a).dot (b.sub a)) ((b.sub a).dot (b.sub a))
 have z6:=PQ.sz_mix a b ((p.sub a).dot (b.sub a) / (b.sub a).dot (b.sub a))
 have z7:=PQ.sz_far p (a.mix b ((p.sub a).dot (b.sub a) / (b.sub a).dot (b.sub a)))
 have z8:=PQ.sz_far p a
 have z9:=PQ.sz_far p b
 unfold mX
 split
 ·omega
 ·split
  ·omega
  ·split<;>omega
theorem nE {x:Rat}:0≤cP x↔0≤x:=by
 have := @nG x
 constructor
 ·intro h
  rcases (Rat.le_total:0≤x∨x≤0) with h1|h1
  ·exact h1
  ·have:¬x<0:=fun h2=>by have:=this.2 h2; omega
   grind
 ·intro h
  have:¬cP x<0:=fun h2=>by have:=this.1 h2; grind
  omega
theorem FX (p q:PQ) (hp:p.sz≤4294967296) (hq:q.sz≤4294967296):ab Tryz.prog 131 [pA p,pA q] (rA (p.dot q)):=by
 have h:=qM (pc p) (pc q) (cF hp) (cF hq)
 rw [bJ,bJ] at h; exact h
theorem vw (l:List PQ) (i:Nat) (hl:1≤l.length) (hl2:l.length≤1099511627776) (hi:i<l.length):ab Tryz.prog 128 [pL l,.int .i64 i] (.int .i64 ((i+1)%l.length:Nat)):=by
 refine Pg Tryz.func128 rfl [.tmp 4] rfl (by simp -implicitDefEqProofs [go_sem]) ?_
 have e1:=wT i (by omega)
 have e2:Int.tmod ((i:Int)+1) (l.length:Int)=((i:Int)+1)%(l.length:Int):=by rw [Int.tmod_eq_emod_of_nonneg (by omega)]
 have e3:¬l=[]:=fun h=>by subst h; simp at hl
 unfold pL
 simp -implicitDefEqProofs [go_sem,e1,e2,e3]
theorem Au (a b c:PQ):PQ.orient a b c≤1:=by
 unfold PQ.orient cP eX
 split<;>(try split)<;>omega
theorem tD (l:List PQ) (hl:3≤l.length) (hl2:l.length≤1048576) (hs:∀p∈l,p.sz≤1073741824)
 (hne:∀i k (hi:i<l.length) (hk:k<l.length),k≠i→l[i]≠l[k])
 (ho:∀i k (hi:i<l.length) (hk:k<l.length),0≤PQ.orient l[i] (l[(i+1)%l.length]'(Nat.mod_lt _ (by omega))) l[k])
 (h1:0<PQ.orient (l[0]'(by omega)) (l[1]'(by omega)) (l[2]'(by omega))):ab Tryz.prog 60 [pL l] (.bool true):=by
 have hnx:=fun i hi=>vw l i (by omega) (by omega) hi
 have hlw:IntKind.i64.wrap (l.length:Int)=l.length:=bO (by omega)
 have N8:¬(l.length:Int)<3:=by omega
 refine Pg Tryz.func60 rfl [.tmp 2] rfl (by simp -implicitDefEqProofs [go_sem]) ?_
 unfold pL at *
 simp -implicitDefEqProofs [go_sem,N8]
 refine aj 0 (α:={s:Nat×Int // s.1≤l.length∧0≤s.2∧s.2≤s.1*1048576∧(0<s.1→1≤s.2)}) (fun s=>[(0,.sl 6 false (l.map pA)),(3,.int .i64 s.1.2),(13,.sl 6 false (l.map pA)),(14,.int .i64 l.length),(15,.int .i64 s.1.1)])
  (fun s=>[]) (fun s=>l.length-s.1.1) ⟨(0,0),by simp⟩ [] (by simp) (fun _ _ _ _ h=>h) (by omega) (by simp -implicitDefEqProofs [go_sem,hlw]) (by simp -implicitDefEqProofs [go_sem]) fun ⟨⟨i,T⟩,hi,t0,t1,t2⟩=>?_
 simp only at hi t0 t1 t2
 simp -implicitDefEqProofs [go_sem]
 refine ⟨fun h5=>?_,fun h5=>?_⟩
 ·have es:=wS i (by omega)
  have hlt:(i+1)%l.length<l.length:=Nat.mod_lt _ (by omega)
  have e1:=kN (l:=l) (i:=i) h5
  have e2:=kN hlt
  have n1:=hnx i h5
  have hro:=gZ l[i]
  have hrq:=gZ l[(i+1)%l.length]
  have hor:∀k (hk:k<l.length),0≤PQ.orient l[i] (l[(i+1)%l.length]'hlt) l[k]:=fun k hk=>ho i k h5 hk
  have hcn:=fun k (hk:k<l.length)=>C4 l[i] l[(i+1)%l.length] l[k] (hs _ (List.getElem_mem h5)) (hs _ (List.getElem_mem hlt)) (hs _ (List.getElem_mem hk))
  have hsm:=fun k (hk:k<l.length)=>gc l[i] l[k] (by have:=hs _ (List.getElem_mem h5); omega) (by have:=hs _ (List.getElem_mem hk); omega)
  have hn2:=fun k (hk:k<l.length)=>hne i k h5 hk
  have hi0:i=0→∀h2:2<l.length,0<PQ.orient l[i] l[(i+1)%l.length] l[2]:=fun hi0 h2=>by
   subst hi0
   have:(0+1)%l.length=1:=Nat.mod_eq_of_lt (by omega)
   simp only [this]
   exact h1
  simp only [cE] at hcn hsm
  generalize l[(i+1)%l.length]=q at *
  generalize l[i]=p at *
  generalize (i+1)%l.length=j at *
  simp -implicitDefEqProofs [go_sem,e1]
  refine ⟨by omega,ag n1 ?_⟩
  simp -implicitDefEqProofs [go_sem,e2]
  refine ⟨by omega,?_⟩
  refine aj 2 (α:={s:Nat×Int // s.1≤l.length∧0≤s.2∧s.2≤i*1048576+s.1∧(0<i∨2<s.1→1≤s.2)}) (fun s=>[(0,.sl 6 false (l.map pA)),(3,.int .i64 s.1.2),(4,.int .i64 i),(5,.ptr 0 0 0),(6,.ptr 1 0 0),(13,.sl 6 false (l.map pA)),(14,.int .i64 l.length),(15,.int .i64 i),(26,.sl 6 false (l.map pA)),(27,.int .i64 l.length),(28,.int .i64 s.1.1)])
   (fun s=>[(0,.live 6 [.agg (pC p)]),(1,.live 6 [.agg (pC q)])]) (fun s=>l.length-s.1.1) ⟨(0,T),by simp only; omega⟩ [] (by simp) (fun _ _ _ _ h=>h) (by omega) (by simp -implicitDefEqProofs [go_sem,hlw]) (by simp -implicitDefEqProofs [go_sem]) fun ⟨⟨k,U⟩,hk,u0,u1,u2⟩=>?_
  simp only at hk u0 u1 u2
  simp -implicitDefEqProofs [go_sem]
  refine ⟨fun h6=>?_,fun h6=>?_⟩
  ·have ek:=wS k (by omega)
   have f1:=kN (l:=l) (i:=k) h6
   have f2:=hcn k h6
   have f3:=hsm k h6
   have f4:=hor k h6
   have f5:=Au p q l[k]
   have f6:=hn2 k h6
   have f7:i=0→k=2→1≤PQ.orient p q l[k]:=fun a b=>by subst b; have:=hi0 a h6; omega
   generalize l[k]=r at *
   generalize PQ.orient p q r=O at *
   have eu:IntKind.i64.wrap (U+O)=U+O:=bO (by omega)
   have hO:¬O<0:=by omega
   have hst:k+1≤l.length∧0≤U+O∧U+O≤i*1048576+(k+1:Nat)∧(0<i∨2<k+1→1≤U+O):=by
    refine ⟨h6,by omega,by omega,fun h=>?_⟩
    by_cases ha:0<i∨2<k
    ·have:=u2 ha; omega
    ·have:=f7 (by omega) (by omega); omega
   by_cases hki:k=i
   ·subst hki
    simp -implicitDefEqProofs [go_sem,f1]
    refine ⟨by omega,ag f2 ?_⟩
    simp -implicitDefEqProofs [go_sem,hO,eu,ek]
    refine ae ⟨(k+1,U+O),hst⟩ (by simp only; omega) [] (by simp) (fun _ _ _ _ h=>h) (by simp) (by simp -implicitDefEqProofs [go_sem,ek]) (by simp -implicitDefEqProofs [go_sem])
   ·have hki':¬(k:Int)=i:=by omega
    have f6:=f6 hki
    simp -implicitDefEqProofs [go_sem,f1,hki']
    refine ⟨by omega,ag f3 ?_⟩
    simp -implicitDefEqProofs [go_sem,f6]
    refine ag f2 ?_
    simp -implicitDefEqProofs [go_sem,hO,eu,ek]
    refine ae ⟨(k+1,U+O),hst⟩ (by simp only; omega) [] (by simp) (fun _ _ _ _ h=>h) (by simp) (by simp -implicitDefEqProofs [go_sem,ek]) (by simp -implicitDefEqProofs [go_sem])
  ·simp -implicitDefEqProofs [go_sem,es]
   refine ae ⟨(i+1,U),by refine ⟨h5,u0,?_,fun _=>u2 (.inr (by omega))⟩; simp only; omega⟩ (by simp only; omega) [] (by simp) (fun _ _ _ _ h=>h) (by simp) (by simp -implicitDefEqProofs [go_sem,es]) (by simp -implicitDefEqProofs [go_sem])
 ·have:0<T:=by have:=t2 (by omega); omega
  simp -implicitDefEqProofs [go_sem,this]
theorem uB (p0:PR) (a b:PQ) (hp0:p0.In 1048576) (ha:a.sz≤1048576) (hb:b.sz≤1048576):ab Tryz.prog 59 [p0.av,pA a,pA b] (rA (mX p0.val a b)):=by
 have hp:=hp0.sz
 have g1:=fun q (hq:PQ.sz q≤1073741824)=>fE p0 (pc q) hp0.mono (cF (by omega))
 have g2:=fun q (hq:PQ.sz q≤1073741824)=>Ax p0 (pc q) hp0.mono (cF hq)
 simp only [bJ] at g1 g2
 obtain ⟨cc,hcc,c1,c2,c3,c4⟩:∃cc,p0.av = .agg cc∧cc.length=6∧cc.take 6=cc∧cc.drop 6=[]∧roL cc:=⟨_,rfl,rfl,rfl,rfl,by have:=jQ p0; unfold PR.av at this; simpa only [ro] using this⟩
 rw [hcc] at g1 g2 ⊢
 generalize p0.val=p at *
 have z1:=PQ.sz_sub b a
 have z2:=PQ.sz_sub p a
 have z3:=PQ.sz_dot (p.sub a) (b.sub a)
 have z4:=PQ.sz_dot (b.sub a) (b.sub a)
 have h1:=KV b a (by omega) (by omega)
 have h2:=g1 a (by omega)
 have h3:=FX (p.sub a) (b.sub a) (by omega) (by omega)
 have h4:=FX (b.sub a) (b.sub a) (by omega) (by omega)
 have h5:=g2 a (by omega)
 have h6:=g2 b (by omega)
 have z5:=mr ((p.sub a).dot (b.sub a)) ((b.sub a).dot (b.sub a))
 have h8:=eW 1 1 (by omega) (by omega) (by omega)
 rw [show ((1:Int):Rat) / ((1:Int):Rat)=1 by grind] at h8
 change ab _ _ [_,pA _] _ at h2 h5 h6
 refine Pg Tryz.func59 rfl [.cell 6 27] rfl (cA _) ?_
 unfold mX
 by_cases h0:(b.sub a).dot (b.sub a)=0
 ·have h7:=jC (qc ((p.sub a).dot (b.sub a))) (qc ((b.sub a).dot (b.sub a))) (fT (by omega)) (fT (by omega))
  rw [cd,cd,if_pos h0] at h7
  change ab _ _ [rA _,rA _] _ at h7
  unfold rZ at h7
  rw [if_pos h0]
  generalize (b.sub a).dot (b.sub a)=dd at *
  generalize (p.sub a).dot (b.sub a)=pd at *
  generalize p.sub a=pa at *
  generalize b.sub a=ba at *
  generalize p.far a=fa at *
  simp only [cE,eV] at h1 h2 h3 h4 h5 h7 ⊢
  simp -implicitDefEqProofs [go_sem,c1,c2]
  refine ag h1 ?_
  simp -implicitDefEqProofs [go_sem,c1,c2]
  refine aC _ h2 (by simp [go_sem,gZ,c4]) ?_
  simp -implicitDefEqProofs [go_sem]
  refine aa h3 ?_
  simp -implicitDefEqProofs [go_sem]
  refine aa h4 ?_
  simp -implicitDefEqProofs [go_sem]
  refine aa h7 ?_
  simp -implicitDefEqProofs [go_sem,c1,c2]
  refine ai _ h5 (by simp [go_sem,gZ,c4]) ?_
  simp -implicitDefEqProofs [go_sem,aS]
 ·have h7:=KY ((p.sub a).dot (b.sub a)) ((b.sub a).dot (b.sub a)) (by omega) (by omega) h0
  rw [if_neg h0]
  have z6:=PQ.sz_mix a b ((p.sub a).dot (b.sub a) / (b.sub a).dot (b.sub a))
  have h9:=KT a b ((p.sub a).dot (b.sub a) / (b.sub a).dot (b.sub a)) (by omega) (by omega) (by omega)
  have h10:=g2 (a.mix b ((p.sub a).dot (b.sub a) / (b.sub a).dot (b.sub a))) (by omega)
  have h11:=Hy ((p.sub a).dot (b.sub a) / (b.sub a).dot (b.sub a)) (by omega)
  have h12:=C8 ((p.sub a).dot (b.sub a) / (b.sub a).dot (b.sub a)) 1 (by omega) (by rw [iF]; omega)
  generalize (p.sub a).dot (b.sub a) / (b.sub a).dot (b.sub a)=t at *
  generalize (b.sub a).dot (b.sub a)=dd at *
  generalize (p.sub a).dot (b.sub a)=pd at *
  generalize p.sub a=pa at *
  generalize b.sub a=ba at *
  generalize p.far a=fa at *
  generalize p.far b=fb at *
  change ab _ _ [_,pA _] _ at h10
  generalize p.far (a.mix b t)=fm at *
  generalize a.mix b t=mx at *
  simp only [cE,eV] at h1 h2 h3 h4 h5 h6 h7 h8 h9 h10 h11 h12 ⊢
  simp -implicitDefEqProofs [go_sem,c1,c2]
  refine ag h1 ?_
  simp -implicitDefEqProofs [go_sem,c1,c2]
  refine aC _ h2 (by simp [go_sem,gZ,c4]) ?_
  simp -implicitDefEqProofs [go_sem]
  refine aa h3 ?_
  simp -implicitDefEqProofs [go_sem]
  refine aa h4 ?_
  simp -implicitDefEqProofs [go_sem]
  refine aa h7 ?_
  simp -implicitDefEqProofs [go_sem,c1,c2]
  refine ag h11 ?_
  by_cases t0:t<0
  ·have:cP t<0:=nG.2 t0
   simp -implicitDefEqProofs [go_sem,this,t0,c1,c2]
   refine ai _ h5 (by simp [go_sem,gZ,c4]) ?_
   simp -implicitDefEqProofs [go_sem,aS]
  ·have:¬cP t<0:=fun hh=>t0 (nG.1 hh)
   simp -implicitDefEqProofs [go_sem,this,t0]
   refine aa h8 ?_
   simp -implicitDefEqProofs [go_sem]
   refine aa h12 ?_
   by_cases t1:1<t
   ·have:0<bW t 1:=dG.2 t1
    simp -implicitDefEqProofs [go_sem,this,t1,c1,c2]
    refine ai _ h6 (by simp [go_sem,gZ,c4]) ?_
    simp -implicitDefEqProofs [go_sem,aS]
   ·have:¬0<bW t 1:=fun hh=>t1 (dG.1 hh)
    simp -implicitDefEqProofs [go_sem,this,t1,c1,c2]
    refine aa h9 ?_
    simp -implicitDefEqProofs [go_sem]
    refine aC _ h10 (by simp [go_sem,gZ,c4]) ?_
    simp -implicitDefEqProofs [go_sem,aS]
theorem E8 (p a b:PQ) (hp:p.sz≤1048576) (ha:a.sz≤1048576) (hb:b.sz≤1048576):ab Tryz.prog 59 [pA p,pA a,pA b] (rA (mX p a b)):=by
 have h:=uB (pc p) a b (cF hp) ha hb
 rw [bJ] at h; exact h
theorem zero_add (c r:PQ):((⟨0,0⟩:PQ).add r).add c=c.add r:=by
 unfold PQ.add
 exact PQ.ext (by simp only; grind) (by simp only; grind)
def Nr (a b:PQ) (T:Rat) (p:PQ):Prop:=∃s,0≤s∧s≤1∧p.far (a.mix b s)≤T
theorem ul {a b p:PQ} {T:Rat}:Nr a b T p↔mX p a b≤T:=by
 constructor
 ·rintro ⟨s,h0,h1,h⟩
  have:=HO p a b h0 h1
  grind
 ·intro h
  obtain ⟨s,h0,h1,h2⟩:=HN p a b
  exact ⟨s,h0,h1,by grind⟩
theorem D5 {p q u v:PQ} {l T:Rat} (h0:0≤l) (h1:l≤1) (hp:p.far u≤T) (hq:q.far v≤T):(p.mix q l).far (u.mix v l)≤T:=by
 have e:(p.mix q l).far (u.mix v l)=(1-l)*p.far u+l*q.far v-l*(1-l)*((p.sub u).far (q.sub v)):=by
  unfold PQ.far PQ.mix PQ.dot PQ.sub PQ.add PQ.scale; simp only; grind
 have n1:0≤(p.sub u).far (q.sub v):=by
  unfold PQ.far PQ.dot
  have h1:=jl ((p.sub u).sub (q.sub v)).x; have h2:=jl ((p.sub u).sub (q.sub v)).y
  grind
 have n2:=Rat.mul_nonneg (Rat.mul_nonneg h0 (show 0≤1-l by grind)) n1
 have n3:=Rat.mul_nonneg h0 (show 0≤T-q.far v by grind)
 have n4:=Rat.mul_nonneg (show 0≤1-l by grind) (show 0≤T-p.far u by grind)
 grind
theorem ED (a b:PQ) (s t l:Rat):(a.mix b s).mix (a.mix b t) l=a.mix b (s*(1-l)+t*l):=by
 unfold PQ.mix PQ.sub PQ.add PQ.scale
 exact PQ.ext (by simp only; grind) (by simp only; grind)
theorem Nr.mix {a b p q:PQ} {T l:Rat} (hp:Nr a b T p) (hq:Nr a b T q) (h0:0≤l) (h1:l≤1):Nr a b T (p.mix q l):=by
 obtain ⟨s,s0,s1,s2⟩:=hp
 obtain ⟨t,t0,t1,t2⟩:=hq
 refine ⟨s*(1-l)+t*l,?_,?_,?_⟩
 ·have:=Rat.mul_nonneg s0 (show 0≤1-l by grind)
  have:=Rat.mul_nonneg t0 h0
  grind
 ·have:=Rat.mul_nonneg (show 0≤1-s by grind) (show 0≤1-l by grind)
  have:=Rat.mul_nonneg (show 0≤1-t by grind) h0
  grind
 ·rw [←ED]; exact D5 h0 h1 s2 t2
theorem G_ {h g:HQ} {t:Rat} (hh:0<h.w) (hg:0<g.w) (h0:0≤t) (h1:t≤1):∃l,0≤l∧l≤1∧(h.mixT g t).P=h.P.mix g.P l:=by
 have hW:=CF hh hg h0 h1
 have e0:aT h.w g.w t=h.w*(1-t)+g.w*t:=rfl
 have n1:=Rat.mul_nonneg (show 0≤g.w by grind) h0
 have n2:=Rat.mul_nonneg (show 0≤h.w by grind) (show 0≤1-t by grind)
 refine ⟨g.w*t / aT h.w g.w t,?_,?_,?_⟩
 ·rw [Rat.div_def]; exact Rat.mul_nonneg n1 (Rat.le_of_lt (Rat.inv_pos.2 hW))
 ·have i0:0≤(aT h.w g.w t)⁻¹:=Rat.le_of_lt (Rat.inv_pos.2 hW)
  have i1:aT h.w g.w t*(aT h.w g.w t)⁻¹=1:=Rat.mul_inv_cancel _ (by grind)
  rw [Rat.div_def]
  have:=Rat.mul_nonneg (show 0≤aT h.w g.w t-g.w*t by grind) i0
  grind
 ·have i1:aT h.w g.w t*(aT h.w g.w t)⁻¹=1:=Rat.mul_inv_cancel _ (by grind)
  have j1:h.w*h.w⁻¹=1:=Rat.mul_inv_cancel _ (by grind)
  have j2:g.w*g.w⁻¹=1:=Rat.mul_inv_cancel _ (by grind)
  rw [e0] at i1
  unfold HQ.P HQ.mixT PQ.mix PQ.add PQ.sub PQ.scale
  simp only [Rat.div_def]
  rw [e0]
  generalize (h.w*(1-t)+g.w*t)⁻¹=W at *
  generalize h.w⁻¹=u at *
  generalize g.w⁻¹=v at *
  unfold aT
  refine PQ.ext ?_ ?_
  ·simp only; grind
  ·simp only; grind
def cY (v:List HQ) (tol:Rat):Prop:=∀h∈v,mX h.P (v.headD hQ0).P (v.getLastD hQ0).P≤tol*tol
def Wi (B x:Rat):Prop := -B≤x∧x≤B
theorem Wi.mul {A B x y:Rat} (hx:Wi A x) (hy:Wi B y):Wi (A*B) (x*y):=by
 obtain ⟨a,b⟩:=hx
 obtain ⟨c,d⟩:=hy
 have h1:=Rat.mul_nonneg (show 0≤A-x by grind) (show 0≤B+y by grind)
 have h2:=Rat.mul_nonneg (show 0≤A+x by grind) (show 0≤B-y by grind)
 have h3:=Rat.mul_nonneg (show 0≤A-x by grind) (show 0≤B-y by grind)
 have h4:=Rat.mul_nonneg (show 0≤A+x by grind) (show 0≤B+y by grind)
 exact ⟨by grind,by grind⟩
structure D2 (e:Rat) (a b c:HQ):Prop where
 x:Wi (16384*e) (a.x-2*b.x+c.x)
 y:Wi (16384*e) (a.y-2*b.y+c.y)
 w:Wi (128*e) (a.w-2*b.w+c.w)
def d2 (e:Rat):List HQ→Prop
 | a::b::c::r=>D2 e a b c∧d2 e (b::c::r)
 | _=>True
structure Bx (h:HQ):Prop where
 x:Wi (64*h.w) h.x
 y:Wi (64*h.w) h.y
 w:1 / 64≤h.w
theorem Bx.mid {a b:HQ} (ha:Bx a) (hb:Bx b):Bx (a.mid b):=by
 obtain ⟨⟨a1,a2⟩,⟨a3,a4⟩,a5⟩:=ha
 obtain ⟨⟨b1,b2⟩,⟨b3,b4⟩,b5⟩:=hb
 unfold HQ.mid br dW
 refine ⟨⟨?_,?_⟩,⟨?_,?_⟩,?_⟩<;>simp only<;>grind
theorem D2.m1 {e:Rat} {a b c:HQ} (h:D2 e a b c):D2 (e / 4) a (a.mid b) ((a.mid b).mid (b.mid c)):=by
 obtain ⟨⟨a1,a2⟩,⟨a3,a4⟩,⟨a5,a6⟩⟩:=h
 unfold HQ.mid br dW
 refine ⟨⟨?_,?_⟩,⟨?_,?_⟩,⟨?_,?_⟩⟩<;>simp only<;>grind
theorem D2.m2 {e:Rat} {a b c:HQ} (h:D2 e a b c):D2 (e / 4) ((a.mid b).mid (b.mid c)) (b.mid c) c:=by
 obtain ⟨⟨a1,a2⟩,⟨a3,a4⟩,⟨a5,a6⟩⟩:=h
 unfold HQ.mid br dW
 refine ⟨⟨?_,?_⟩,⟨?_,?_⟩,⟨?_,?_⟩⟩<;>simp only<;>grind
theorem D2.m3 {e:Rat} {a b c d:HQ} (h:D2 e a b c) (h':D2 e b c d):D2 (e / 4) (a.mid b) ((a.mid b).mid (b.mid c)) (((a.mid b).mid (b.mid c)).mid ((b.mid c).mid (c.mid d))):=by
 obtain ⟨⟨a1,a2⟩,⟨a3,a4⟩,⟨a5,a6⟩⟩:=h
 obtain ⟨⟨b1,b2⟩,⟨b3,b4⟩,⟨b5,b6⟩⟩:=h'
 unfold HQ.mid br dW
 refine ⟨⟨?_,?_⟩,⟨?_,?_⟩,⟨?_,?_⟩⟩<;>simp only<;>grind
theorem D2.m4 {e:Rat} {a b c d:HQ} (h:D2 e a b c) (h':D2 e b c d):D2 (e / 4) (((a.mid b).mid (b.mid c)).mid ((b.mid c).mid (c.mid d))) ((b.mid c).mid (c.mid d)) (c.mid d):=by
 obtain ⟨⟨a1,a2⟩,⟨a3,a4⟩,⟨a5,a6⟩⟩:=h
 obtain ⟨⟨b1,b2⟩,⟨b3,b4⟩,⟨b5,b6⟩⟩:=h'
 unfold HQ.mid br dW
 refine ⟨⟨?_,?_⟩,⟨?_,?_⟩,⟨?_,?_⟩⟩<;>simp only<;>grind
structure Cv (e:Rat) (v:List HQ):Prop where
 good:bX v
 box:∀h∈v,Bx h
 d:d2 e v
theorem Cv.cut {e:Rat} {v:List HQ} (h:Cv e v):Cv (e / 4) (aW v.length v)∧Cv (e / 4) (aX v.length v):=by
 obtain ⟨hG,hb,hd⟩:=h
 obtain ⟨g1,g2⟩:=Br hG
 have h2:=hG.2.1; have h4:=hG.2.2
 rcases (by omega:v.length=2∨v.length=3∨v.length=4) with h|h|h
 ·obtain ⟨a,b,rfl⟩:=FL h
  have ba:=hb a (by simp); have bb:=hb b (by simp)
  have m1:=ba.mid bb
  refine ⟨⟨g1,?_,?_⟩,⟨g2,?_,?_⟩⟩
  ·rw [show aW [a,b].length [a,b]=[a,a.mid b] from rfl]; intro h hh; simp at hh; rcases hh with rfl|rfl<;>assumption
  ·trivial
  ·rw [show aX [a,b].length [a,b]=[a.mid b,b] from rfl]; intro h hh; simp at hh; rcases hh with rfl|rfl<;>assumption
  ·trivial
 ·obtain ⟨a,b,c,rfl⟩:=FM h
  have ba:=hb a (by simp); have bb:=hb b (by simp); have bc:=hb c (by simp)
  have m1:=ba.mid bb; have m2:=bb.mid bc; have m3:=m1.mid m2
  refine ⟨⟨g1,?_,?_⟩,⟨g2,?_,?_⟩⟩
  ·rw [show aW [a,b,c].length [a,b,c]=_ from OW a b c]; intro h hh; simp at hh; rcases hh with rfl|rfl|rfl<;>assumption
  ·exact ⟨hd.1.m1,trivial⟩
  ·rw [show aX [a,b,c].length [a,b,c]=_ from OY a b c]; intro h hh; simp at hh; rcases hh with rfl|rfl|rfl<;>assumption
  ·exact ⟨hd.1.m2,trivial⟩
 ·obtain ⟨a,b,c,d,rfl⟩:=FN h
  have ba:=hb a (by simp); have bb:=hb b (by simp); have bc:=hb c (by simp); have bd:=hb d (by simp)
  have m1:=ba.mid bb; have m2:=bb.mid bc; have m3:=bc.mid bd
  have n1:=m1.mid m2; have n2:=m2.mid m3; have n3:=n1.mid n2
  refine ⟨⟨g1,?_,?_⟩,⟨g2,?_,?_⟩⟩
  ·rw [show aW [a,b,c,d].length [a,b,c,d]=_ from OX a b c d]; intro h hh; simp at hh; rcases hh with rfl|rfl|rfl|rfl<;>assumption
  ·exact ⟨hd.1.m1,hd.1.m3 hd.2.1,trivial⟩
  ·rw [show aX [a,b,c,d].length [a,b,c,d]=_ from OZ a b c d]; intro h hh; simp at hh; rcases hh with rfl|rfl|rfl|rfl<;>assumption
  ·exact ⟨hd.1.m4 hd.2.1,hd.2.1.m2,trivial⟩
theorem Wi.div {R z w:Rat} (h:Wi R (z*w)) (hw:1 / 64≤w):Wi (64*R) z:=by
 obtain ⟨h1,h2⟩:=h
 constructor
 ·rcases Classical.em (-(64*R)≤z) with h|h
  ·exact h
  ·rcases (Rat.le_total:0≤z∨z≤0) with hz|hz
   ·exfalso
    have:=Rat.mul_nonneg hz (show 0≤w by grind)
    grind
   ·have:=Rat.mul_nonneg (show 0 ≤ -z by grind) (show 0≤w-1 / 64 by grind)
    grind
 ·rcases Classical.em (z≤64*R) with h|h
  ·exact h
  ·rcases (Rat.le_total:0≤z∨z≤0) with hz|hz
   ·have:=Rat.mul_nonneg hz (show 0≤w-1 / 64 by grind)
    grind
   ·exfalso
    have:=Rat.mul_nonneg (show 0 ≤ -z by grind) (show 0≤w by grind)
    grind
theorem FQ {e bx bw hx hw:Rat} (h0:0≤e) (hbw:1 / 64≤bw) (hhw:1 / 64≤hw) (h1:Wi (64*hw) hx) (h2:Wi (16384*e) (bx-hx)) (h3:Wi (128*e) (bw-hw)):Wi (1572864*e) (bx / bw-hx / hw):=by
 have e1:bx / bw*bw=bx:=by grind
 have e2:hx / hw*hw=hx:=by grind
 generalize bx / bw=p at *
 generalize hx / hw=q at *
 have hq:Wi 64 q:=by
  obtain ⟨a,b⟩:=h1
  constructor
  ·rcases Classical.em (-64≤q) with h|h
   ·exact h
   ·have:=Rat.mul_pos (show 0 < -64-q by grind) (show 0<hw by grind)
    grind
  ·rcases Classical.em (q≤64) with h|h
   ·exact h
   ·have:=Rat.mul_pos (show 0<q-64 by grind) (show 0<hw by grind)
    grind
 have m:=hq.mul h3
 have:Wi (24576*e) ((p-q)*bw):=by
  obtain ⟨a,b⟩:=h2
  obtain ⟨c,d⟩:=m
  constructor
  ·grind
  ·grind
 have:=this.div hbw
 obtain ⟨a,b⟩:=this
 exact ⟨by grind,by grind⟩
theorem F_ {B x:Rat} (h:Wi B x):x*x≤B*B:=by
 have:=Rat.mul_nonneg (show 0≤B-x by have:=h.2; grind) (show 0≤B+x by have:=h.1; grind)
 grind
theorem CK {e l tol:Rat} {b A D:HQ} (h0:0≤e) (he:e≤1 / 268435456) (ht:1 / 64≤tol) (hb:Bx b) (hA:Bx A) (hD:Bx D) (l0:0≤l) (l1:l≤1)
 (hx:Wi (16384*e) (b.x-aT A.x D.x l)) (hy:Wi (16384*e) (b.y-aT A.y D.y l)) (hw:Wi (128*e) (b.w-aT A.w D.w l)):Nr A.P D.P (tol*tol) b.P:=by
 have pA:0<A.w:=by have:=hA.w; grind
 have pD:0<D.w:=by have:=hD.w; grind
 obtain ⟨s,s0,s1,hs⟩:=G_ pA pD l0 l1
 refine ⟨s,s0,s1,?_⟩
 rw [←hs]
 have w1:1 / 64≤aT A.w D.w l:=by
  unfold aT
  have:=Rat.mul_nonneg (show 0≤A.w-1 / 64 by have:=hA.w; grind) (show 0≤1-l by grind)
  have:=Rat.mul_nonneg (show 0≤D.w-1 / 64 by have:=hD.w; grind) l0
  grind
 have bx:Wi (64*aT A.w D.w l) (aT A.x D.x l):=by
  obtain ⟨a1,a2⟩:=hA.x
  obtain ⟨b1,b2⟩:=hD.x
  have:=Rat.mul_nonneg (show 0≤64*A.w-A.x by grind) (show 0≤1-l by grind)
  have:=Rat.mul_nonneg (show 0≤64*D.w-D.x by grind) l0
  have:=Rat.mul_nonneg (show 0≤64*A.w+A.x by grind) (show 0≤1-l by grind)
  have:=Rat.mul_nonneg (show 0≤64*D.w+D.x by grind) l0
  unfold aT
  exact ⟨by grind,by grind⟩
 have by':Wi (64*aT A.w D.w l) (aT A.y D.y l):=by
  obtain ⟨a1,a2⟩:=hA.y
  obtain ⟨b1,b2⟩:=hD.y
  have:=Rat.mul_nonneg (show 0≤64*A.w-A.y by grind) (show 0≤1-l by grind)
  have:=Rat.mul_nonneg (show 0≤64*D.w-D.y by grind) l0
  have:=Rat.mul_nonneg (show 0≤64*A.w+A.y by grind) (show 0≤1-l by grind)
  have:=Rat.mul_nonneg (show 0≤64*D.w+D.y by grind) l0
  unfold aT
  exact ⟨by grind,by grind⟩
 have n1:=F_ (FQ h0 hb.w w1 bx hx hw)
 have n2:=F_ (FQ h0 hb.w w1 by' hy hw)
 have e1:b.P.far (A.mixT D l).P=(b.x / b.w-aT A.x D.x l / aT A.w D.w l)*(b.x / b.w-aT A.x D.x l / aT A.w D.w l)+(b.y / b.w-aT A.y D.y l / aT A.w D.w l)*(b.y / b.w-aT A.y D.y l / aT A.w D.w l):=rfl
 rw [e1]
 have k1:1572864*e*(1572864*e)≤9 / 262144:=by
  have:=Rat.mul_nonneg (show 0≤1 / 268435456-e by grind) (show 0≤1 / 268435456+e by grind)
  grind
 have k2:1 / 4096≤tol*tol:=by
  have:=Rat.mul_nonneg (show 0≤tol-1 / 64 by grind) (show 0≤tol+1 / 64 by grind)
  grind
 grind
theorem kV (a b:PQ) {T:Rat} (h:0≤T):Nr a b T a:=⟨0,by grind,by grind,by rw [kT]; unfold PQ.far PQ.dot PQ.sub; simp only; grind⟩
theorem kW (a b:PQ) {T:Rat} (h:0≤T):Nr a b T b:=⟨1,by grind,by grind,by rw [nz]; unfold PQ.far PQ.dot PQ.sub; simp only; grind⟩
theorem Cv.flat {e tol:Rat} {v:List HQ} (h:Cv e v) (h0:0≤e) (he:e≤1 / 268435456) (ht:1 / 64≤tol):cY v tol:=by
 obtain ⟨hG,hb,hd⟩:=h
 have h2:=hG.2.1; have h4:=hG.2.2
 have hT:0≤tol*tol:=jl tol
 intro x hx
 rw [←ul]
 rcases (by omega:v.length=2∨v.length=3∨v.length=4) with h|h|h
 ·obtain ⟨a,b,rfl⟩:=FL h
  simp at hx
  rcases hx with rfl|rfl
  ·exact kV _ _ hT
  ·exact kW _ _ hT
 ·obtain ⟨a,b,c,rfl⟩:=FM h
  simp at hx
  rcases hx with rfl|rfl|rfl
  ·exact kV _ _ hT
  ·obtain ⟨⟨a1,a2⟩,⟨a3,a4⟩,⟨a5,a6⟩⟩:=hd.1
   refine CK (l:=1 / 2) h0 he ht (hb x (by simp)) (hb a (by simp)) (hb c (by simp)) (by grind) (by grind) ⟨?_,?_⟩ ⟨?_,?_⟩ ⟨?_,?_⟩<;>unfold aT<;>grind
  ·exact kW _ _ hT
 ·obtain ⟨a,b,c,d,rfl⟩:=FN h
  simp at hx
  obtain ⟨⟨a1,a2⟩,⟨a3,a4⟩,⟨a5,a6⟩⟩:=hd.1
  obtain ⟨⟨b1,b2⟩,⟨b3,b4⟩,⟨b5,b6⟩⟩:=hd.2.1
  rcases hx with rfl|rfl|rfl|rfl
  ·exact kV _ _ hT
  ·refine CK (l:=1 / 3) h0 he ht (hb x (by simp)) (hb a (by simp)) (hb d (by simp)) (by grind) (by grind) ⟨?_,?_⟩ ⟨?_,?_⟩ ⟨?_,?_⟩<;>unfold aT<;>grind
  ·refine CK (l:=2 / 3) h0 he ht (hb x (by simp)) (hb a (by simp)) (hb d (by simp)) (by grind) (by grind) ⟨?_,?_⟩ ⟨?_,?_⟩ ⟨?_,?_⟩<;>unfold aT<;>grind
  ·exact kW _ _ hT
end Go.Proofs.YtdnmfaljidjijaaGreat
