import Derived.Test.YtdnmfaljidjijaaGreatPk05
import Derived.Test.YtdnmfaljidjijaaGreatPk06
import Derived.Test.YtdnmfaljidjijaaGreatPk07
import Derived.Test.YtdnmfaljidjijaaGreatPk08
import Derived.Test.YtdnmfaljidjijaaGreatPk09
import Derived.Test.YtdnmfaljidjijaaGreatPk10
import Derived.Test.YtdnmfaljidjijaaGreatPk11
import Derived.Test.YtdnmfaljidjijaaGreatProg
namespace Go.Proofs.YtdnmfaljidjijaaGreat
set_option maxHeartbeats 64000000
open Go Go.Proofs
@[go_sem] theorem Ur:az Tryz.prog 97=some ⟨2,32,(.struct [(0,95),(1,3)]),[(.sl 0 true []),(.int .i64 0)]⟩:=by kernel_rfl
@[go_sem] theorem SW:az Tryz.prog 100=some ⟨11,184,(.struct [(0,45),(3,45),(6,3),(7,3),(8,45)]),[(.bool false),(.sl 0 true []),(.sl 0 true []),(.bool false),(.sl 0 true []),(.sl 0 true []),(.int .i64 0),(.int .i64 0),(.bool false),(.sl 0 true []),(.sl 0 true [])]⟩:=by kernel_rfl
@[go_sem] theorem Tc:az Tryz.prog 190=some ⟨2,32,(.struct [(0,57),(1,3)]),[(.sl 0 true []),(.int .i64 0)]⟩:=by kernel_rfl
@[go_sem] theorem Td:az Tryz.prog 194=some ⟨2,32,(.struct [(0,57),(1,3)]),[(.sl 0 true []),(.int .i64 0)]⟩:=by kernel_rfl
@[go_sem] theorem Tr:az Tryz.prog 260=some ⟨2,32,(.struct [(0,57),(1,3)]),[(.sl 0 true []),(.int .i64 0)]⟩:=by kernel_rfl
@[go_sem] theorem Ts:az Tryz.prog 264=some ⟨8,128,(.struct [(0,118),(6,3),(7,3)]),[(.bool false),(.sl 0 true []),(.sl 0 true []),(.bool false),(.sl 0 true []),(.sl 0 true []),(.int .i64 0),(.int .i64 0)]⟩:=by kernel_rfl
@[go_sem] theorem TP:az Tryz.prog 412=some ⟨4,64,(.struct [(0,43),(2,43)]),[(.bool false),(.sl 0 true []),(.bool false),(.sl 0 true [])]⟩:=by kernel_rfl
set_option linter.unusedSimpArgs false
set_option linter.unusedVariables false
theorem HN {n s:Nat} (h1:s*s≤n) (h2:n<(s+1)*(s+1)):s=j_ n:=by
 obtain ⟨k1,k2⟩:=gh n
 have a:=Eg (a:=s) (b:=j_ n+1) (by omega)
 have b:=Eg (a:=j_ n) (b:=s+1) (by omega)
 omega
set_option maxRecDepth 20000
theorem yB {n:Nat} (h0:n≠0):∃l x,ax 4294967296 n=l++[x]∧x≠0∧x<4294967296∧b_ n=32*l.length+b_ x:=by
 obtain ⟨l,x,h1,h2⟩:=h_ (B:=4294967296) (by omega) h0
 have hx:x<4294967296:=by
  have:=ay (B:=4294967296) (by omega) n
  rw [h1] at this
  exact (bE.1 this).2 x (by simp)
 refine ⟨l,x,h1,h2,hx,?_⟩
 have hv:n=lv 4294967296 l+4294967296 ^ l.length*x:=by
  have:=aA (B:=4294967296) (by omega) n
  rw [h1,ce] at this
  simpa using this.symm
 have hl:lv 4294967296 l<4294967296 ^ l.length:=cN (by
  have:=ay (B:=4294967296) (by omega) n
  rw [h1] at this
  exact (bE.1 this).1)
 have hp:4294967296 ^ l.length=2 ^ (32*l.length):=by rw [Nat.pow_mul]
 rw [hp] at hv hl
 have hdiv:n / 2 ^ (32*l.length)=x:=by
  rw [hv,Nat.add_mul_div_left _ _ (Nat.pow_pos (by decide)),Nat.div_eq_of_lt hl,Nat.zero_add]
 have hge:2 ^ (32*l.length)≤n:=by
  rw [hv]
  have:2 ^ (32*l.length)*1≤2 ^ (32*l.length)*x:=Nat.mul_le_mul_left _ (by omega)
  omega
 rw [jW hge,hdiv]
 omega
theorem Ex {x:Nat} (h:0<x):b_ x=b_ (x / 2)+1:=by
 rcases (show x=1∨2≤x by omega) with rfl|h2
 ·decide
 ·have:=jW (n:=x) (k:=1) (by omega)
  rwa [Nat.pow_one] at this
theorem yA (A:Nat) (hA:cg (ax 4294967296 A)):ag Tryz.prog 328 [qA A] (.int .i64 (b_ A)):=by
 refine Pg Tryz.func328 rfl [.tmp 2] rfl (by simp -implicitDefEqProofs [go_sem]) ?_
 by_cases h0:A=0
 ·subst h0
  simp -implicitDefEqProofs [go_sem,qA,aW]
  rfl
 ·obtain ⟨l,x,h1,h2,h3,h4⟩:=yB h0
  unfold cg at hA
  rw [h4]
  unfold qA
  rw [h1] at hA ⊢
  simp at hA
  have e1:IntKind.i64.wrap (l.length:Int)=(l.length:Nat):=bS (by omega)
  have e2:IntKind.i64.wrap (32*(l.length:Int))=(32*l.length:Nat):=by rw [bS (by omega)]; omega
  have hnz:¬((l.length:Int)+1=0):=by omega
  have hg:bU (uA .u32 (l++[x])) (l.length:Int) = .int .u32 (x:Nat):=by rw [bw _ (by simp)]; simp
  obtain ⟨b,hb⟩:∃b,b=32*l.length:=⟨_,rfl⟩
  rw [←hb] at e2 ⊢
  have hbx:=et (n:=x) (k:=32) (by omega)
  simp -implicitDefEqProofs [go_sem,e1,e2,hg,hnz]
  refine ⟨by omega,?_⟩
  refine ap 9 (α:={p:Nat×Nat // p.2<4294967296∧p.1+b_ p.2=b+b_ x}) (fun p=>[(3,.int .i64 p.1.1),(4,.int .u32 p.1.2)]) (fun p=>[]) (fun p=>p.1.2) ⟨(b,x),h3,rfl⟩ [] (by simp) (by simp) (by simp) (by simp -implicitDefEqProofs [go_sem]) (by simp) fun ⟨⟨n,v⟩,q1,q2⟩=>?_
  simp only at q1 q2
  simp -implicitDefEqProofs [go_sem]
  refine ⟨fun h=>?_,fun h=>?_⟩
  ·have hh:=Ex (x:=v) (by omega)
   have e3:=wS n (by omega)
   have e4:IntKind.u32.wrap ((v:Int) / 2)=(v / 2:Nat):=by
    have:=rj (v / 2)
    rw [Nat.mod_eq_of_lt (by omega)] at this
    exact_mod_cast this
   simp -implicitDefEqProofs [go_sem,e3,e4]
   exact ae ⟨(n+1,v / 2),by simp only; omega,by simp only; omega⟩ (by simp only; omega) [] (by simp) (by simp) (by simp) (by simp -implicitDefEqProofs [go_sem]) (by simp)
  ·have:v=0:=by omega
   subst this
   have:n=b+b_ x:=by simpa [b_] using q2
   simp -implicitDefEqProofs [go_sem,this]
theorem Ci:ax 4294967296 1=[1]:=by
 have:=aT (B:=4294967296) (by omega) (l:=[1]) (by simp [bZ])
 simpa [a_] using this.symm
theorem J5 {v:Nat} (h:v<4294967296):Id .u32 0 (v:Int)=v:=by
 have e:Id .u32 0 (v:Int)=IntKind.u32.wrap (((0#32 ||| BitVec.ofInt 32 (v:Int)).toNat:Nat):Int):=rfl
 have e2:(0#32 ||| BitVec.ofInt 32 (v:Int)).toNat=v:=by
  rw [BitVec.zero_or,BitVec.ofInt_natCast,BitVec.toNat_ofNat]
  exact Nat.mod_eq_of_lt h
 rw [e,e2,rj,Nat.mod_eq_of_lt h]
theorem tp:∀F,lv 4294967296 (List.replicate F 0)=0
 | 0=>rfl
 | F+1=>by rw [List.replicate_succ,cD,tp F]
theorem xV (F:Nat):4294967296 ^ F=2 ^ (32*F):=by rw [Nat.pow_mul]
theorem nT (k:Nat) (hk:k≤1048576):ag Tryz.prog 314 [qA 1,.int .i64 k] (qA (2 ^ k)):=by
 obtain ⟨F,hF⟩:∃F,F=k / 32:=⟨_,rfl⟩
 obtain ⟨s,hs'⟩:∃s,s=k%32:=⟨_,rfl⟩
 have hs:s<32:=by omega
 have e1:IntKind.i64.wrap ((k:Int) / 32)=F:=by rw [bS (by omega)]; omega
 have e2:(k:Int).tmod 32=s:=by rw [Int.tmod_eq_emod_of_nonneg (by omega)]; omega
 have e2':IntKind.u64.wrap (s:Int)=s:=by simp only [IntKind.wrap,IntKind.bits,IntKind.signed]; simp only [Bool.false_and,Bool.false_eq_true,if_false]; omega
 obtain ⟨M,hM⟩:∃M,M=F+2:=⟨_,rfl⟩
 have e3:=wS F (by omega)
 obtain ⟨G,hG⟩:∃G,G=F+1:=⟨_,rfl⟩
 rw [←hG] at e3
 have e4:IntKind.i64.wrap ((G:Int)+1)=(M:Nat):=by rw [bS (by omega)]; omega
 have e5:IntKind.i64.wrap (F:Int)=F:=bS (by omega)
 obtain ⟨v,hv⟩:∃v,v=2 ^ s:=⟨_,rfl⟩
 have hvb:v<4294967296:=by rw [hv]; exact Nat.pow_lt_pow_right (by omega) hs
 have e6:IntKind.u64.wrap ((2:Int) ^ min s 64)=v:=by
  have:=H4 1 s (by omega)
  rw [Nat.one_mul,←hv,Nat.mod_eq_of_lt (by omega)] at this
  simpa using this
 have e7:IntKind.u32.wrap (v:Int)=v:=by have:=rj v; rwa [Nat.mod_eq_of_lt hvb] at this
 have e8:=yf v
 rw [Nat.div_eq_of_lt hvb] at e8
 have e9:IntKind.u32.wrap (0:Int)=0:=rfl
 have hlx:qA (2 ^ k)=mA (a_ (List.replicate F 0++[v,0])):=by
  unfold qA
  rw [aT (by omega) (bE.2 ⟨fun x hx=>by rw [(List.mem_replicate.1 hx).2]; decide,(fun x hx=>by simp at hx; rcases hx with rfl|rfl<;>omega:bZ 4294967296 [v,0])⟩),ce,tp,List.length_replicate,xV]
  congr 2
  simp only [cD,eD,Nat.mul_zero,Nat.add_zero,Nat.zero_add]
  rw [hv,←Nat.pow_add]
  congr 1; omega
 rw [hlx]
 have hrp:List.replicate (F+2) 0=List.replicate F 0++[0,0]:=by
  rw [←List.replicate_append_replicate]; rfl
 refine Pg Tryz.func314 rfl [.tmp 4] rfl (by simp -implicitDefEqProofs [go_sem]) ?_
 unfold qA
 rw [Ci]
 simp -implicitDefEqProofs [go_sem,e1,e2,e3,e4]
 refine ⟨by omega,?_⟩
 rw [jU]
 simp -implicitDefEqProofs [go_sem,e2']
 refine ap 9 (α:={i:Nat // i≤1}) (fun i=>[(0,mA [1]),(1,.int .i64 k),(5,.own 1 0 0 M),(6,.int .u64 s),(7,.int .i64 i.1)]) (fun i=>[(0,.live 1 (uA .u32 (List.replicate F 0++if i.1=0 then [0,0] else [v,0])))]) (fun i=>1-i.1) ⟨0,by omega⟩ [] (by simp) (by simp) (by simp) (by simp -implicitDefEqProofs [go_sem]) (by simp -implicitDefEqProofs [go_sem,hM,hrp]) fun ⟨i,hi⟩=>?_
 simp -implicitDefEqProofs [go_sem]
 refine ⟨fun h=>?_,fun h=>?_⟩
 ·have hi0:i=0:=by omega
  subst hi0
  have hg1:∀h,(uA .u32 (List.replicate F 0++[0,0]))[F]'h = .int .u32 0:=fun h=>by simp [uA]
  have hg2:∀h,(uA .u32 (List.replicate F 0++[v,0]))[G]'h = .int .u32 0:=fun h=>by
   simp [uA]
   rw [List.getElem_append_right (by simp; omega)]
   simp [hG]
  have hg3:(uA .u32 (List.replicate F 0++[v,0]))[G]?.getD .any = .int .u32 0:=by
   rw [List.getElem?_eq_getElem (by rw [MU]; simp; omega),hg2]; rfl
  have hw1:IntKind.u64.wrap 1=1:=rfl
  have hset:(List.replicate F 0++[0,0]).set F v=List.replicate F 0++[v,0]:=by
   rw [List.set_append_right _ _ (by simp)]; simp
  have hset2:(List.replicate F 0++[v,0]).set G 0=List.replicate F 0++[v,0]:=by
   rw [List.set_append_right _ _ (by simp; omega)]; simp [hG]
  have ho1:=J5 hvb
  have ho2:Id .u32 0 0=0:=rfl
  have hg0:bU [AV.int .u32 1] 0 = .int .u32 1:=rfl
  simp -implicitDefEqProofs [go_sem,e1,e3,e5,e6,e7,e8,e9,hg1,hg2,hset,hset2,ho1,ho2,hg0,hw1,dn,hg3]
  have hw2:IntKind.i64.wrap 1=1:=rfl
  have hset3:uA .u32 (List.replicate F 0++[v,0])=(uA .u32 (List.replicate F 0++[v,0])).set G (.int .u32 0):=by
   have:=dn .u32 (List.replicate F 0++[v,0]) G 0
   rw [hset2] at this; exact_mod_cast this.symm
  refine ⟨by omega,by omega,by omega,by omega,by omega,ae ⟨1,by omega⟩ (by simp only; omega) [] (by simp) (by simp) (by simp) (by simp -implicitDefEqProofs [go_sem,hw2]) (by simp -implicitDefEqProofs [go_sem,←hset3,hset,hset2])⟩
 ·have:i=1:=by omega
  subst this
  have htk:List.take M (uA .u32 (List.replicate F 0++[v,0]))=uA .u32 (List.replicate F 0++[v,0]):=by
   rw [List.take_of_length_le]; simp [uA]; omega
  refine cq [0] _ (dG (List.replicate F 0++[v,0]) (by unfold dj; simp; omega)) (by simp -implicitDefEqProofs [go_sem,htk]) (by simp -implicitDefEqProofs [go_sem]) (by simp -implicitDefEqProofs [go_sem,hM]) (by simp -implicitDefEqProofs [go_sem]) ?_
  simp -implicitDefEqProofs [go_sem]
theorem vF {x L:Nat} (h:x<2 ^ (32*L)):(ax 4294967296 x).length≤L:=cw (by omega) (by rw [xV]; exact h)
theorem mF {x L:Nat} (h:(ax 4294967296 x).length≤L):x<2 ^ (32*L):=by
 have:=cN (ay (B:=4294967296) (by omega) x)
 rw [aA (by omega),xV] at this
 exact Nat.lt_of_lt_of_le this (Nat.pow_le_pow_right (by omega) (by omega))
theorem Ac {A L:Nat} (h:(ax 4294967296 A).length≤L):b_ A≤32*L:=et (mF h)
theorem Ad {k L:Nat} (h:k<32*L):(ax 4294967296 (2 ^ k)).length≤L:=vF (Nat.pow_lt_pow_right (by omega) h)
theorem Ab {x y L:Nat} (hx:(ax 4294967296 x).length≤L) (hy:(ax 4294967296 y).length≤L):(ax 4294967296 (x+y)).length≤L+1:=by
 refine vF ?_
 have h1:=mF hx
 have h2:=mF hy
 have e:2 ^ (32*(L+1))=2 ^ (32*L)*2 ^ 32:=by rw [←Nat.pow_add]; rfl
 rw [e]
 generalize 2 ^ (32*L)=P at *
 omega
theorem Cj {y L:Nat} (h:(ax 4294967296 y).length≤L):(ax 4294967296 (y*y)).length≤L+L:=by
 have h2:=AB (A:=y) (V:=y) (k:=L) (by rw [xV]; exact mF h)
 omega
theorem A4 (A:Nat) (hA:(ax 4294967296 A).length≤32768):ag Tryz.prog 316 [qA A] (qA (j_ A)):=by
 have hAl:cg (ax 4294967296 A):=by unfold cg; omega
 have hb:=yA A hAl
 have hbl:=Ac hA
 have hlt:j_ A<2 ^ ((b_ A+1) / 2):=tc (ml A)
 obtain ⟨sp1,sp2⟩:=gh A
 obtain ⟨b,hbb⟩:∃b,b=b_ A:=⟨_,rfl⟩
 rw [←hbb] at hb hbl hlt
 obtain ⟨K,hK⟩:∃K,K=(b+1) / 2:=⟨_,rfl⟩
 rw [←hK] at hlt
 have e1:IntKind.i64.wrap ((b:Int)+1)=(b:Int)+1:=bS (by omega)
 have e2:((b:Int)+1).tdiv 2=K:=by rw [Int.tdiv_eq_ediv_of_nonneg (by omega)]; omega
 have e2':IntKind.i64.wrap (((b:Int)+1) / 2)=K:=by rw [bS (by omega)]; omega
 have e3:IntKind.i64.wrap (K:Int)=K:=bS (by omega)
 have ho:=fJ 1 (by omega)
 refine Pg Tryz.func316 rfl [.tmp 2] rfl (by simp -implicitDefEqProofs [go_sem,eZ]) ?_
 simp -implicitDefEqProofs [go_sem]
 refine ac hb ?_
 simp -implicitDefEqProofs [go_sem,e1,e2,e2',e3]
 refine zM 3 (qA 0) (by unfold qA; rw [aW]; exact Wk.nil 0 1 true) 9 (α:={p:Nat×Nat // p.1≤K+1∧p.2*p.2≤A∧A<(p.2+2 ^ p.1)*(p.2+2 ^ p.1)}) (fun p=>[(0,qA A),(3,qA p.1.2),(4,.int .i64 ((p.1.1:Int)-1))]) (fun p=>[]) (fun p=>p.1.1) ⟨(K+1,0),by simp,by simp,?_⟩ [] (by simp) (by simp) (by simp) (by simp -implicitDefEqProofs [go_sem,qA]) (by simp) fun ⟨⟨j,x⟩,q1,q2,q3⟩=>?_
 ·simp only [Nat.zero_add]
  have h1:j_ A+1≤2 ^ (K+1):=by
   have:2 ^ (K+1)=2*2 ^ K:=by rw [Nat.pow_succ,Nat.mul_comm]
   omega
  have:=Nat.mul_le_mul h1 h1
  omega
 ·simp only at q1 q2 q3
  simp -implicitDefEqProofs [go_sem]
  refine ⟨fun h=>?_,fun h=>?_⟩
  ·obtain ⟨k,hk⟩:∃k,j=k+1:=⟨j-1,by omega⟩
   subst hk
   have ek:((k+1:Nat):Int)-1=(k:Nat):=by omega
   have ek':(k:Int)+1-1=(k:Nat):=by omega
   have hsh:=nT k (by omega)
   have hxA:x≤A:=by
    rcases Nat.eq_zero_or_pos x with h|h
    ·omega
    ·exact Nat.le_trans (Nat.le_mul_of_pos_right x h) q2
   have hxl:(ax 4294967296 x).length≤32768:=Nat.le_trans (cU (by omega) hxA) hA
   have hpl:(ax 4294967296 (2 ^ k)).length≤32768:=Ad (by omega)
   have hadd:=rS x (2 ^ k) (by unfold cg; omega) (by unfold cg; omega)
   have hyl:(ax 4294967296 (x+2 ^ k)).length≤32769:=Ab hxl hpl
   obtain ⟨y,hy⟩:∃y,y=x+2 ^ k:=⟨_,rfl⟩
   have hq3:A<(y+2 ^ k)*(y+2 ^ k):=by
    rw [hy,Nat.add_assoc,show 2 ^ k+2 ^ k=2 ^ (k+1) by rw [Nat.pow_succ]; omega]
    exact q3
   rw [←hy] at hadd hyl
   have hmul:=fE y y (by unfold cg; omega) (by unfold cg; omega)
   have hml:=Cj hyl
   have hcmp:=jh (y*y) A (by unfold dj; omega) hAl.x
   have hcc:cA ((y*y:Nat):Int) (A:Int)≤0↔y*y≤A:=by
    unfold cA; split
    ·omega
    ·split<;>omega
   generalize cA ((y*y:Nat):Int) (A:Int)=c at *
   refine ac ho ?_
   simp -implicitDefEqProofs [go_sem,ek,ek']
   refine ac hsh ?_
   simp -implicitDefEqProofs [go_sem]
   refine ac hadd ?_
   simp -implicitDefEqProofs [go_sem]
   refine ac hmul ?_
   simp -implicitDefEqProofs [go_sem]
   refine ac hcmp ?_
   have e9:IntKind.i64.wrap ((k:Int)-1)=(k:Int)-1:=bS (by omega)
   simp -implicitDefEqProofs [go_sem,e9]
   refine ⟨fun h=>?_,fun h=>?_⟩
   ·exact ae ⟨(k,y),by omega,hcc.1 h,hq3⟩ (by simp only; omega) [] (by simp) (by simp) (by simp) (by simp -implicitDefEqProofs [go_sem,qA]) (by simp)
   ·exact ae ⟨(k,x),by omega,q2,by rw [←hy]; exact Nat.lt_of_not_le (mt hcc.2 (by omega))⟩ (by simp only; omega) [] (by simp) (by simp) (by simp) (by simp -implicitDefEqProofs [go_sem,qA]) (by simp)
  ·have:j=0:=by omega
   subst this
   have:x=j_ A:=HN q2 (by simpa using q3)
   subst this
   simp -implicitDefEqProofs [go_sem,qA]
theorem mw (x y:Rat) (hx:sz x≤17179869184) (hy:sz y≤17179869184) (h0:y≠0):ag Tryz.prog 214 [fA x,fA y] (fA (x / y)):=by
 have:=bX x; have:=bX y; have:=cf x; have:=cf y
 have dx:=eS x
 have dy:=eS y
 have m1:=gZ x.num y.den (by omega) (by simp; omega)
 have hs:=aE y
 have hn:=lQ (x.num*y.den)
 have m2:=fE x.den y.num.natAbs (fX (by omega)) (fX (by omega))
 have hyn:y.num≠0:=fun h=>h0 (Rat.num_eq_zero.1 h)
 have hd0:x.den*y.num.natAbs≠0:=Nat.mul_ne_zero x.den_nz (by omega)
 have hmk:=fun p (hp:nl p.natAbs<549755813888)=>gY p (x.den*y.num.natAbs) hp (by
  have h1:=cH x.den y.num.natAbs
  omega) hd0
 have hpn:nl (x.num*y.den).natAbs<549755813888:=by
  have h1:=cH x.num.natAbs y.den
  rw [Int.natAbs_mul]; simp; omega
 have hv:x / y=mkRat (if y.num<0 then -(x.num*y.den) else x.num*y.den) (x.den*y.num.natAbs):=by
  have h1:=pN (x.num*y.den) (y.num*x.den)
  have h2:((x.num*y.den:Int):Rat) / ((y.num*x.den:Int):Rat)=x / y:=by
   have h1:=oQ x
   have h2:=oQ y
   have h3:(x.den:Rat)≠0:=by simpa using x.den_nz
   have h4:(y.den:Rat)≠0:=by simpa using y.den_nz
   rw [Rat.intCast_mul,Rat.intCast_mul,Rat.intCast_natCast,Rat.intCast_natCast]
   conv=>rhs; rw [h1,h2]
   generalize (x.num:Rat)=a at *
   generalize (y.num:Rat)=b at *
   generalize (x.den:Rat)=c at *
   generalize (y.den:Rat)=d at *
   clear h1 h2 m1 m2 hmk
   grind
  rw [h2] at h1
  have h3:(y.num*(x.den:Int)).natAbs=x.den*y.num.natAbs:=by rw [Int.natAbs_mul,Nat.mul_comm]; simp
  have h4:y.num*(x.den:Int)<0↔y.num<0:=by
   have:=x.den_pos
   constructor
   ·intro h
    rcases Int.lt_or_le y.num 0 with h5|h5
    ·exact h5
    ·have:=Int.mul_nonneg h5 (Int.natCast_nonneg x.den); omega
   ·intro h; exact Int.mul_neg_of_neg_of_pos h (by omega)
  rw [h3] at h1
  simp only [h4] at h1
  exact h1
 rw [hv]
 generalize x.num*y.den=u at *
 generalize hdd:x.den*y.num.natAbs=d at *
 rw [nJ] at dx dy m1
 refine Pg Tryz.func214 rfl [.cell 4 45] rfl (iJ _) ?_
 unfold aM ik at hs
 rcases Int.lt_or_le y.num 0 with h1|h1
 ·rw [if_pos h1] at hs ⊢
  have hm:=hmk (-u) (by rw [Int.natAbs_neg]; exact hpn)
  clear hmk hv
  generalize mkRat (-u) d=r at *
  generalize -u=v at *
  unfold fA iA qA at *
  simp -implicitDefEqProofs [go_sem]
  refine aa dy ?_
  simp -implicitDefEqProofs [go_sem]
  refine aa m1 ?_
  simp -implicitDefEqProofs [go_sem]
  refine ac hs ?_
  simp -implicitDefEqProofs [go_sem]
  refine ac hn ?_
  simp -implicitDefEqProofs [go_sem]
  refine aa dx ?_
  simp -implicitDefEqProofs [go_sem]
  refine aa m2 ?_
  simp -implicitDefEqProofs [go_sem]
  refine aa hm ?_
  simp -implicitDefEqProofs [go_sem,aL]
 ·rw [if_neg (by omega),if_neg hyn] at hs
  rw [if_neg (by omega)]
  have hm:=hmk u hpn
  clear hmk hv
  generalize mkRat u d=r at *
  unfold fA iA qA at *
  simp -implicitDefEqProofs [go_sem]
  refine aa dy ?_
  simp -implicitDefEqProofs [go_sem]
  refine aa m1 ?_
  simp -implicitDefEqProofs [go_sem]
  refine ac hs ?_
  simp -implicitDefEqProofs [go_sem]
  refine aa dx ?_
  simp -implicitDefEqProofs [go_sem]
  refine aa m2 ?_
  simp -implicitDefEqProofs [go_sem]
  refine aa hm ?_
  simp -implicitDefEqProofs [go_sem,aL]
theorem cT (p q:PQ) (hp:p.sz≤17179869184) (hq:q.sz≤17179869184):ag Tryz.prog 191 [eA p,eA q] (eA (p.add q)):=by
 obtain ⟨p1,p2⟩:=eg p hp
 obtain ⟨q1,q2⟩:=eg q hq
 have h1:=fH p.x q.x p1 q1
 have h2:=fH p.y q.y p2 q2
 refine Pg Tryz.func191 rfl [.cell 4 118] rfl (qE _) ?_
 simp only [aP,bc] at *
 simp -implicitDefEqProofs [go_sem]
 refine aa h1 ?_
 simp -implicitDefEqProofs [go_sem]
 refine aa h2 ?_
 simp -implicitDefEqProofs [go_sem,aL,PQ.add]
theorem iE (p:PQ) (k:Rat) (hp:p.sz≤17179869184) (hk:sz k≤17179869184):ag Tryz.prog 253 [eA p,fA k] (eA (p.scale k)):=by
 obtain ⟨p1,p2⟩:=eg p hp
 have h1:=aN p.x k p1 hk
 have h2:=aN p.y k p2 hk
 refine Pg Tryz.func253 rfl [.cell 4 118] rfl (qE _) ?_
 simp only [aP,bc] at *
 simp -implicitDefEqProofs [go_sem]
 refine aa h1 ?_
 simp -implicitDefEqProofs [go_sem]
 refine aa h2 ?_
 simp -implicitDefEqProofs [go_sem,aL,PQ.scale]
theorem ER (p q:PQ) (t:Rat) (hp:p.sz≤1073741824) (hq:q.sz≤1073741824) (ht:sz t≤1073741824):ag Tryz.prog 294 [eA p,eA q,fA t] (eA (p.mix q t)):=by
 have h1:=dr q p (by omega) (by omega)
 have s1:=PQ.sz_sub q p
 have h2:=iE (q.sub p) t (by omega) (by omega)
 have s2:=PQ.sz_scale (q.sub p) t
 have h3:=cT p ((q.sub p).scale t) (by omega) (by omega)
 rw [show p.add ((q.sub p).scale t)=p.mix q t from rfl] at h3
 generalize p.mix q t=r at *
 generalize (q.sub p).scale t=u at *
 generalize q.sub p=v at *
 refine Pg Tryz.func294 rfl [.cell 6 118] rfl (qE _) ?_
 simp only [aP,bc] at *
 simp -implicitDefEqProofs [go_sem]
 refine aa h1 ?_
 simp -implicitDefEqProofs [go_sem]
 refine aa h2 ?_
 simp -implicitDefEqProofs [go_sem]
 refine aa h3 ?_
 simp -implicitDefEqProofs [go_sem,aL]
theorem EQ (p q:PQ) (hp:p.sz≤1073741824) (hq:q.sz≤1073741824):ag Tryz.prog 295 [eA p,eA q] (fA (p.far q)):=by
 have h1:=dr p q (by omega) (by omega)
 have s1:=PQ.sz_sub p q
 have h2:=bT (p.sub q) (p.sub q) (by omega) (by omega)
 rw [show (p.sub q).dot (p.sub q)=p.far q from rfl] at h2
 generalize p.far q=r at *
 generalize p.sub q=v at *
 refine Pg Tryz.func295 rfl [.cell 4 45] rfl (iJ _) ?_
 simp only [aP,bc] at *
 simp -implicitDefEqProofs [go_sem]
 refine aa h1 ?_
 simp -implicitDefEqProofs [go_sem]
 refine aa h1 ?_
 simp -implicitDefEqProofs [go_sem]
 refine aa h2 ?_
 simp -implicitDefEqProofs [go_sem,aL]
theorem CT (j:Nat) (p:PQ) (k:Rat):bN j (p.scale k)=(bN j p).scale k:=by
 induction j with
 | zero=>rfl
 | succ j ih =>
  change (bN j (p.scale k)).rot=((bN j p).rot).scale k
  rw [ih]
  generalize bN j p=q
  refine PQ.ext ?_ ?_<;>simp only [PQ.rot,PQ.scale]<;>grind
theorem IV (m i:Nat) (h:Rat):(⟨h / (1+tQ m i*tQ m i)*(1-tQ m i*tQ m i),h / (1+tQ m i*tQ m i)*(tQ m i+tQ m i)⟩:PQ)=(uP m i).scale h:=by
 have:=qa m i
 unfold uP kQ PQ.scale
 refine PQ.ext ?_ ?_<;>simp only<;>grind
theorem xg (c:PQ) (h:Rat) (m:Nat) (hc:c.sz≤1048576) (hh:sz h≤1048576) (hm:1≤m) (hm2:m≤4096) :
 ag Tryz.prog 245 [eA c,fA h,.int .i64 m] (eL (dL c h m 4)):=by
 refine ag.of_ca (oW _) (Cg Tryz.func245 rfl [.tmp 6] rfl ?_)
 obtain ⟨O,hO⟩:∃O:Nat→Nat→List AV,O=fun j i=>(dL c h m j++(uL m i).map (dP c h j)).map eA:=⟨_,rfl⟩
 have hOr:∀j i,roL (O j i):=fun j i=>by rw [hO]; exact cY _
 have hOl:∀j i,(O j i).length=j*m+i:=fun j i=>by rw [hO]; simp [jA,da]
 have hO0:O 0 0=[]:=by rw [hO]; rfl
 have hOs:∀j i,O j (i+1)=O j i++[.agg (eC (dP c h j (uP m i)))]:=fun j i=>by rw [hO]; simp only [rM,List.map_append,List.map_singleton,aP,List.append_assoc]
 have hOm:∀j,O j m=O (j+1) 0:=fun j=>by rw [hO]; simp [dL,dQ,uL]
 have hO4:eL (dL c h m 4) = .sl 6 false (O 4 0):=by rw [hO]; simp [eL,uL]
 rw [hO4]
 simp only [aP,bc]
 simp -implicitDefEqProofs [go_sem]
 refine ap 3 (α:={j:Nat // j≤4}) (fun j=>[(2,.int .i64 m),(3,.ptr 0 0 0),(4,.ptr 1 0 0),(7,di 6 2 (O j.1 0)),(8,.int .i64 j.1)])
  (fun j=>(0,.live 6 [.agg (eC c)])::(1,.live 3 [.agg (fC h)])::cR 6 2 (O j.1 0)) (fun j=>4-j.1) ⟨0,Nat.zero_le _⟩ [] (by simp) (by simp only [hO0,wK]; simp [nm]) (by omega) (by simp -implicitDefEqProofs [go_sem,hO0]) (by simp -implicitDefEqProofs [go_sem,hO0]) fun ⟨j,hj⟩=>?_
 simp only
 have hb:O j 0≠[]→hp 3 (cR 6 2 (O j 0)) 2 = .live 6 (O j 0):=fun h=>by rw [aC h]; simp [hp,aH]
 simp -implicitDefEqProofs [go_sem]
 refine ⟨fun h4=>?_,fun h4=>?_⟩
 ·have ej:=wS j (by omega)
  have o1:=(renL_ro (nm []) _ (hOr j 0)).symm
  have o2:=cloL_ro (n:=3) _ (hOr j 0)
  refine ap 3 (α:={i:Nat // i≤m}) (fun i=>[(2,.int .i64 m),(3,.ptr 0 0 0),(4,.ptr 1 0 0),(7,di 6 2 (O j i.1)),(8,.int .i64 j),(9,.int .i64 i.1)])
   (fun i=>(0,.live 6 [.agg (eC c)])::(1,.live 3 [.agg (fC h)])::cR 6 2 (O j i.1)) (fun i=>m-i.1) ⟨0,Nat.zero_le _⟩ [] (by simp) (fun _ _ _ _ h=>h) (by omega) (by simp -implicitDefEqProofs [go_sem]) (by simp -implicitDefEqProofs [go_sem]; exact fun h=>⟨by rw [if_neg h,←o1],o2⟩) fun ⟨i,hi⟩=>?_
  simp only
  have hb2:O j i≠[]→hp 3 (cR 6 2 (O j i)) 2 = .live 6 (O j i):=fun h=>by rw [aC h]; simp [hp,aH]
  have hl:=hOl j i
  have hjm:j*m≤3*4096:=Nat.mul_le_mul (by omega) hm2
  generalize j*m=jm at *
  simp -implicitDefEqProofs [go_sem]
  refine ⟨fun h5=>?_,fun h5=>?_⟩
  ·have es:=wS i (by omega)
   have r1:=cG (i:Int) (m:Int) (by omega) (by omega) (by omega)
   rw [show ((i:Int):Rat) / ((m:Int):Rat)=tQ m i from rfl] at r1
   have r0:=cG 1 1 (by omega) (by omega) (by omega)
   rw [show ((1:Int):Rat) / ((1:Int):Rat)=1 by grind] at r0
   have z1:=IM hm hm2 hi
   have z2:=aJ (tQ m i) (tQ m i)
   have z3:=sz_add 1 (tQ m i*tQ m i)
   have z4:=sz_sub 1 (tQ m i*tQ m i)
   have z5:=sz_add (tQ m i) (tQ m i)
   have z6:=iS h (1+tQ m i*tQ m i)
   rw [eH] at z3 z4
   have r2:=aN (tQ m i) (tQ m i) (by omega) (by omega)
   have r3:=fH 1 (tQ m i*tQ m i) (by rw [eH]; omega) (by omega)
   have r4:=mw h (1+tQ m i*tQ m i) (by omega) (by omega) (qa m i)
   have r5:=eT 1 (tQ m i*tQ m i) (by rw [eH]; omega) (by omega)
   have r6:=aN (h / (1+tQ m i*tQ m i)) (1-tQ m i*tQ m i) (by omega) (by omega)
   have r7:=fH (tQ m i) (tQ m i) (by omega) (by omega)
   have r8:=aN (h / (1+tQ m i*tQ m i)) (tQ m i+tQ m i) (by omega) (by omega)
   have hps:=IV m i h
   have zu:=Ba hm hm2 hi
   have zs:=PQ.sz_scale (uP m i) h
   obtain ⟨w,hw⟩:∃w,w=(uP m i).scale h:=⟨_,rfl⟩
   have hdp:∀j,dP c h j (uP m i)=c.add (bN j w):=fun j=>by rw [hw,CT]; rfl
   have hs1:=hOs j i
   rw [hdp] at hs1
   rw [←hw] at hps zs
   have hr1:=hOr j (i+1)
   clear hw hdp
   generalize h / (1+tQ m i*tQ m i)*(1-tQ m i*tQ m i)=px at *
   generalize h / (1+tQ m i*tQ m i)*(tQ m i+tQ m i)=py at *
   subst hps
   generalize h / (1+tQ m i*tQ m i)=kq at *
   generalize 1+tQ m i*tQ m i=op at *
   generalize 1-tQ m i*tQ m i=om at *
   generalize tQ m i*tQ m i=s at *
   generalize tQ m i+tQ m i=tt at *
   generalize tQ m i=t at *
   simp only [bc] at r0 r1 r2 r3 r4 r5 r6 r7 r8
   refine ac r1 ?_
   simp -implicitDefEqProofs [go_sem]
   refine ac r2 ?_
   simp -implicitDefEqProofs [go_sem]
   refine ac r0 ?_
   simp -implicitDefEqProofs [go_sem]
   refine aa r3 ?_
   simp -implicitDefEqProofs [go_sem]
   refine aa r4 ?_
   simp -implicitDefEqProofs [go_sem]
   refine aa r5 ?_
   simp -implicitDefEqProofs [go_sem]
   refine aa r6 ?_
   simp -implicitDefEqProofs [go_sem]
   refine aa r7 ?_
   simp -implicitDefEqProofs [go_sem]
   refine aa r8 ?_
   simp -implicitDefEqProofs [go_sem]
   have o5:=(renL_ro (nm [(3,24)]) _ (hOr j i)).symm
   have o6:=cloL_ro (n:=4) _ (hOr j i)
   have o7:=(renL_ro (nm []) _ (hOr j i)).symm
   refine ap 4 (α:={r:Nat // r≤j}) (fun r=>[(2,.int .i64 m),(3,.ptr 0 0 0),(4,.ptr 1 0 0),(7,di 6 2 (O j i)),(8,.int .i64 j),(9,.int .i64 i),(14,.ptr 3 0 0),(15,.int .i64 r.1)])
    (fun r=>(0,.live 6 [.agg (eC c)])::(1,.live 3 [.agg (fC h)])::(3,.live 6 [.agg (eC (bN r.1 ⟨px,py⟩))])::cR 6 2 (O j i)) (fun r=>j-r.1) ⟨0,Nat.zero_le _⟩ [(3,24)] (by simp) (by simp -implicitDefEqProofs [go_sem]<;>simp [nm]) (by omega) (by simp -implicitDefEqProofs [go_sem]) (by simp -implicitDefEqProofs [go_sem,bN]; exact fun h=>⟨by rw [if_neg h,←o5]; rfl,o6⟩) fun ⟨r,hr⟩=>?_
   simp only
   have e1:=wS r (by omega)
   simp -implicitDefEqProofs [go_sem]
   refine ⟨fun h6=>?_,fun h6=>?_⟩
   ·have hng:=eB (bN r ⟨px,py⟩).y
    have hrr:eC (bN (r+1) ⟨px,py⟩)=eC ⟨-(bN r ⟨px,py⟩).y,(bN r ⟨px,py⟩).x⟩:=rfl
    generalize bN r ⟨px,py⟩=p at *
    simp only [bc] at hng
    refine aa hng ?_
    simp -implicitDefEqProofs [go_sem,e1]
    refine ae ⟨r+1,by omega⟩ (by simp only; omega) [] (by simp) (fun _ _ _ _ h=>h) (by simp) (by simp -implicitDefEqProofs [go_sem,e1]) (by simp -implicitDefEqProofs [go_sem,hrr]; exact fun h=>⟨by rw [if_neg h,←o7]; rfl,o6⟩)
   ·have hrj:r=j:=by omega
    subst hrj
    have zr:=pm r ⟨px,py⟩
    have k1:=cT c (bN r ⟨px,py⟩) (by omega) (by omega)
    generalize c.add (bN r ⟨px,py⟩)=cp at *
    generalize bN r ⟨px,py⟩=p at *
    simp only [aP] at k1
    refine ac k1 ?_
    simp -implicitDefEqProofs [go_sem]
    refine aI (.inl rfl) (by omega) (by omega) (by simp -implicitDefEqProofs [go_sem]) (by simp [hl]<;>omega) (by simp -implicitDefEqProofs [go_sem]<;>(intro h; simp [h,lK])) ?_
    simp -implicitDefEqProofs [go_sem,es]
    have hn1:O r (i+1)≠[]:=by rw [hs1]; simp
    rw [hs1] at hr1
    have u1:=(renL_ro (nm [(2,5)]) _ hr1).symm
    have u2:=cloL_ro (n:=3) _ hr1
    have hl1:(O r (i+1)).length=(O r i).length+1:=by rw [hs1]; simp
    refine ae ⟨i+1,h5⟩ (by simp only; omega) [(2,5)] (by simp) (by simp only [aC hn1]; simp [nm]) (by simp) (by simp only [aV hn1,hl1]; simp -implicitDefEqProofs [go_sem,es]) (by simp only [aC hn1,hs1]; simp -implicitDefEqProofs [go_sem,←u1,u2])
  ·have him:i=m:=by omega
   subst him
   rw [hOm]
   rw [hOm] at hb2
   have o3:=(renL_ro (nm []) _ (hOr (j+1) 0)).symm
   have o4:=cloL_ro (n:=3) _ (hOr (j+1) 0)
   simp -implicitDefEqProofs [go_sem,ej]
   refine ae ⟨j+1,by omega⟩ (by simp only; omega) [] (by simp) (fun _ _ _ _ h=>h) (by simp) (by simp -implicitDefEqProofs [go_sem,ej]) (by simp -implicitDefEqProofs [go_sem]; exact fun h=>⟨by rw [if_neg h,←o3],o4⟩)
 ·have hj4:j=4:=by omega
  subst hj4
  exact fS (hOr 4 0) (fun h=>by simp -implicitDefEqProofs [go_sem,h])
theorem BO (c:PQ) (h d:Rat) (m:Nat) (hc:c.sz≤1048576) (hh:sz h≤1048576) (hd:sz d≤1048576) (hm:1≤m) (hm2:m≤4096) :
 ag Tryz.prog 246 [eL (dL c h m 4),eA c,fA d] (.bool (dV h m d)):=by
 have hs:=aE d
 have h2:=aN d d (by omega) (by omega)
 have zd:=aJ d d
 have hhf:=cG 1 2 (by omega) (by omega) (by omega)
 rw [←dc] at hhf
 have zhf:=fv
 obtain ⟨L,hL⟩:∃L,L=dL c h m 4:=⟨_,rfl⟩
 have hLl:L.length=4*m:=by rw [hL,da]
 have hLg:∀k,k<4*m→∃hk:k<L.length,L[k]=dP c h (k / m) (uP m (k%m)):=fun k hk=>⟨by omega,by subst hL; exact sv _ _ _ hm _ _ _⟩
 have hLn:∀k,k<4*m→∃hk:(k+1)%(4*m)<L.length,L[(k+1)%(4*m)]=dP c h (k / m) (uP m (k%m+1)):=fun k hk=>⟨by rw [hLl]; exact Nat.mod_lt _ (by omega),by
  subst hL; exact w_ c h m hm k hk⟩
 rw [←hL]
 refine Pg Tryz.func246 rfl [.tmp 6] rfl (by simp -implicitDefEqProofs [go_sem]) ?_
 simp only [bc] at hs h2 hhf
 rw [bc,aP]
 unfold eL
 simp -implicitDefEqProofs [go_sem]
 refine ac hs ?_
 by_cases h0:d≤0
 ·have:aM d≤0:=by
   have:¬0<aM d:=by rw [bQ]; grind
   omega
  have hn:dV h m d=false:=by
   unfold dV
   rw [decide_eq_false (by grind)]; rfl
  simp -implicitDefEqProofs [go_sem,this,hn]
 ·have:¬aM d≤0:=by
   have:0<aM d:=by rw [bQ]; grind
   omega
  have hn:dV h m d=(List.range m).any fun i=>decide (nD h m i<d*d):=by
   unfold dV
   rw [decide_eq_true (by grind)]; rfl
  rw [hn]
  simp -implicitDefEqProofs [go_sem,this]
  refine ap 2 (α:={k:Nat // k≤4*m∧∀j,j<k→¬nD h m (j%m)<d*d}) (fun k=>[(0,.sl 6 false (L.map eA)),(4,.ptr 0 0 0),(5,.ptr 1 0 0),(7,.int .i64 k.1)])
   (fun k=>[(0,.live 6 [.agg (eC c)]),(1,.live 3 [.agg (fC d)])]) (fun k=>4*m-k.1) ⟨0,Nat.zero_le _,fun _ h=>by omega⟩ [] (by simp) (fun _ _ _ _ h=>h) (by omega) (by simp -implicitDefEqProofs [go_sem]) (by simp -implicitDefEqProofs [go_sem]) fun ⟨k,hk,hno⟩=>?_
  simp -implicitDefEqProofs [go_sem]
  refine ⟨fun h5=>?_,fun h5=>?_⟩
  ·have es:=wS k (by omega)
   obtain ⟨k1,g1⟩:=hLg k (by omega)
   obtain ⟨k2,g2⟩:=hLn k (by omega)
   have e1:=f_ k1
   have e2:=f_ k2
   rw [g1] at e1
   rw [g2] at e2
   have hlt:=Nat.mod_lt k (show 0<m by omega)
   have z1:=Dm (q:=k / m) (i:=k%m) hc hh hm hm2 (by omega)
   have z2:=Dm (q:=k / m) (i:=k%m+1) hc hh hm hm2 (by omega)
   have hmx:=ER (dP c h (k / m) (uP m (k%m))) (dP c h (k / m) (uP m (k%m+1))) bB (by omega) (by omega) (by omega)
   have z3:=PQ.sz_mix (dP c h (k / m) (uP m (k%m))) (dP c h (k / m) (uP m (k%m+1))) bB
   have hf1:=EQ ((dP c h (k / m) (uP m (k%m))).mix (dP c h (k / m) (uP m (k%m+1))) bB) c (by omega) (by omega)
   have zf:=PQ.sz_far ((dP c h (k / m) (uP m (k%m))).mix (dP c h (k / m) (uP m (k%m+1))) bB) c
   have hcm:=bC (((dP c h (k / m) (uP m (k%m))).mix (dP c h (k / m) (uP m (k%m+1))) bB).far c) (d*d) (by omega) (by omega)
   rw [Dr] at hf1 hcm
   generalize (dP c h (k / m) (uP m (k%m))).mix (dP c h (k / m) (uP m (k%m+1))) bB=mp at *
   generalize dP c h (k / m) (uP m (k%m))=p1 at *
   generalize dP c h (k / m) (uP m (k%m+1))=p2 at *
   simp only [aP,bc] at hmx hf1 hcm
   have hmod:Int.tmod ((k+1:Nat):Int) (L.length:Int)=(((k+1)%(4*m):Nat):Int):=by
    rw [Int.tmod_eq_emod_of_nonneg (by omega),hLl]; rfl
   have hn0:L≠[]:=by intro h; rw [h] at hLl; simp at hLl; omega
   obtain ⟨i1,hi1⟩:∃i1,i1=k+1:=⟨_,rfl⟩
   obtain ⟨i2,hi2⟩:∃i2,i2=(k+1)%(4*m):=⟨_,rfl⟩
   rw [←hi2] at hmod e2 k2
   rw [←hi1] at es hmod
   simp -implicitDefEqProofs [go_sem,e1,es,e2,hmod,hn0]
   refine ⟨k1,k2,aa hhf ?_⟩
   simp -implicitDefEqProofs [go_sem]
   refine aa hmx ?_
   simp -implicitDefEqProofs [go_sem]
   refine aa hf1 ?_
   simp -implicitDefEqProofs [go_sem]
   refine aa h2 ?_
   simp -implicitDefEqProofs [go_sem]
   refine aa hcm ?_
   by_cases hl:nD h m (k%m)<d*d
   ·have:bJ (nD h m (k%m)) (d*d)<0:=by rw [dJ]; exact hl
    simp -implicitDefEqProofs [go_sem,this]
    exact ⟨k%m,hlt,hl⟩
   ·have:¬bJ (nD h m (k%m)) (d*d)<0:=by rw [dJ]; exact hl
    simp -implicitDefEqProofs [go_sem,this,es]
    refine ae ⟨i1,by omega,fun j hj=>?_⟩ (by simp only; omega) [] (by simp) (fun _ _ _ _ h=>h) (by simp) (by simp -implicitDefEqProofs [go_sem,es]) (by simp -implicitDefEqProofs [go_sem])
    rcases (by omega:j<k∨j=k) with h|h
    ·exact hno j h
    ·subst h; exact hl
  ·intro x hx
   have:=hno x (by omega)
   rwa [Nat.mod_eq_of_lt hx] at this
theorem lG (c:PQ) (h tol:Rat) (hc:c.sz≤1024) (hh:sz h≤1024) (ht:sz tol≤1024) :
 ag Tryz.prog 189 [eA c,fA h,fA tol] (.agg [eL (mV c h tol).1,.int .i64 (mV c h tol).2]):=by
 have hs:=aE h
 have hs2:=aE tol
 have hsub:=eT h tol (by omega) (by omega)
 have zs:=sz_sub h tol
 have hdp:=fun m hm hm2=>xg c h m (by omega) (by omega) hm hm2
 have hnr:=fun m hm hm2=>BO c h (h-tol) m (by omega) (by omega) (by omega) hm hm2
 simp only [aP,bc] at *
 refine ag.of_ca (by simp only [ro,roL]; exact ⟨oW _,trivial,trivial⟩) (Cg Tryz.func189 rfl [.cell 6 260] rfl ?_)
 have wnil:∀e,Wk (.agg [.sl 0 true [],.int .i64 e]) (.agg [eL [],.int .i64 e]):=fun e=>Wk.agg (.cons (Wk.nil 0 6 true) (rQ.refl _))
 simp -implicitDefEqProofs [go_sem]
 refine ac hs ?_
 by_cases n1:h≤0
 ·have:aM h≤0:=by
   have:¬0<aM h:=by rw [bQ]; grind
   omega
  have hr:mV c h tol=([],1):=if_pos (.inl n1)
  rw [hr]
  simp -implicitDefEqProofs [go_sem,this,aL]
  exact wnil 1
 ·have p1:¬aM h≤0:=by
   have:0<aM h:=by rw [bQ]; grind
   omega
  simp -implicitDefEqProofs [go_sem,p1]
  refine ac hs2 ?_
  by_cases n2:tol≤0
  ·have:aM tol≤0:=by
    have:¬0<aM tol:=by rw [bQ]; grind
    omega
   have hr:mV c h tol=([],1):=if_pos (.inr n2)
   rw [hr]
   simp -implicitDefEqProofs [go_sem,this,aL]
   exact wnil 1
  ·have p2:¬aM tol≤0:=by
    have:0<aM tol:=by rw [bQ]; grind
    omega
   have hr:mV c h tol=_:=if_neg (fun hh=>hh.elim n1 n2)
   obtain ⟨R,hR⟩:∃R,R=mW (fun e=>dV h (2 ^ e) (h-tol)) (fun e=>dL c h (2 ^ e) 4) 13 0:=⟨_,rfl⟩
   rw [hr,←hR]
   simp -implicitDefEqProofs [go_sem,p2]
   refine ap 4 (α:={e:Nat // e≤13∧R=mW (fun e=>dV h (2 ^ e) (h-tol)) (fun e=>dL c h (2 ^ e) 4) (13-e) e})
    (fun e=>[(3,.ptr 0 0 0),(4,.ptr 1 0 0),(5,.ptr 2 0 0),(6,.ptr 3 0 0),(7,.int .i64 (2 ^ e.1:Nat))]) (fun e=>[(0,.live 6 [.agg (eC c)]),(1,.live 3 [.agg (fC h)]),(2,.live 3 [.agg (fC tol)]),(3,.live 2 [.agg [.sl 0 true [],.int .i64 0]])]) (fun e=>13-e.1) ⟨0,by omega,hR⟩ [] (by simp) (fun _ _ _ _ h=>h) (by omega) (by simp -implicitDefEqProofs [go_sem]) (by simp -implicitDefEqProofs [go_sem]) fun ⟨e,he,hre⟩=>?_
   simp only
   have hpw:=KZ he
   have hp12:=Ay he
   have hp1:1≤2 ^ e:=Nat.pow_pos (by omega)
   have e2:IntKind.i64.wrap (((2 ^ e:Nat):Int)*2)=((2 ^ (e+1):Nat):Int):=by rw [bS (by omega),Nat.pow_succ]; omega
   obtain ⟨m,hm⟩:∃m,m=2 ^ e:=⟨_,rfl⟩
   rw [←hm] at hpw hp12 hp1 e2 ⊢
   simp -implicitDefEqProofs [go_sem]
   refine ⟨fun h5=>?_,fun h5=>?_⟩
   ·have he12:e≤12:=hp12.1 (by omega)
    have hd:=hdp m hp1 (by omega)
    have hn:=hnr m hp1 (by omega)
    have hst:mW (fun e=>dV h (2 ^ e) (h-tol)) (fun e=>dL c h (2 ^ e) 4) (13-e) e=if dV h m (h-tol)=true then mW (fun e=>dV h (2 ^ e) (h-tol)) (fun e=>dL c h (2 ^ e) 4) (13-(e+1)) (e+1) else (dL c h m 4,0):=by
     rw [show 13-e=(13-(e+1))+1 by omega]
     simp only [mW]
     rw [←hm]
    have hro:=cY (dL c h m 4)
    rw [hst] at hre
    unfold eL at hd hn
    generalize dV h m (h-tol)=nb at *
    refine ac hd ?_
    simp -implicitDefEqProofs [go_sem]
    refine aa hsub ?_
    simp -implicitDefEqProofs [go_sem]
    refine aa hn ?_
    cases nb with
    | true =>
     rw [if_pos rfl] at hre
     simp -implicitDefEqProofs [go_sem]
     rw [e2]
     refine ae ⟨e+1,by omega,hre⟩ (by simp only; omega) [] (by simp) (fun _ _ _ _ h=>h) (by simp) (by simp -implicitDefEqProofs [go_sem]) (by simp -implicitDefEqProofs [go_sem])
    | false =>
     rw [if_neg (by simp)] at hre
     subst hre
     simp -implicitDefEqProofs [go_sem,eL,aL]
     exact Wk.refl _
   ·have he13:e=13:=by
     have:¬e≤12:=fun h=>by have:=hp12.2 h; omega
     omega
    subst he13
    have hre:R=([],24):=hre
    subst hre
    simp -implicitDefEqProofs [go_sem,aL]
    exact wnil 24
theorem xC (x d:Nat) (hx:nl x<137438953472) (hd:nl d<137438953472) (h0:d≠0):ag Tryz.prog 329 [iA x,iA d] (.agg [.bool false,qA (x / d),.bool false,qA (x%d)]):=by
 have hdm:=iv x d (fX (by omega)) (fX (by omega)) (by omega)
 have hmd:=fB false (x / d)
 have hsg:fR false (x / d)=((x / d:Nat):Int):=rfl
 rw [hsg] at hmd
 have hnq:nl (x / d)≤nl x:=dN (Nat.div_le_self x d)
 have hml:=gZ ((x / d:Nat):Int) (d:Int) (by simp only [Int.natAbs_natCast]; omega) (by simp only [Int.natAbs_natCast]; omega)
 have e1:((x / d:Nat):Int)*(d:Int)=((x / d*d:Nat):Int):=by rw [Int.natCast_mul]
 rw [e1] at hml
 have hlq:nl (x / d*d)≤nl x:=dN (Nat.div_mul_le_self x d)
 have hsb:=vA (x:Int) ((x / d*d:Nat):Int) (by simp only [Int.natAbs_natCast]; omega) (by simp only [Int.natAbs_natCast]; omega)
 have e2:(x:Int)-((x / d*d:Nat):Int)=((x%d:Nat):Int):=by
  have:=Nat.div_add_mod x d
  rw [Nat.mul_comm] at this
  omega
 rw [e2] at hsb
 generalize x / d*d=qd at *
 generalize x / d=q at *
 generalize x%d=r at *
 simp only [nJ] at *
 refine Pg Tryz.func329 rfl [.cell 4 412] rfl (by simp -implicitDefEqProofs [go_sem,qA]) ?_
 unfold qA at *
 simp -implicitDefEqProofs [go_sem]
 refine ac hdm ?_
 simp -implicitDefEqProofs [go_sem]
 refine ac hmd ?_
 simp -implicitDefEqProofs [go_sem]
 refine ⟨fun _=>?_,fun _=>?_⟩
 all_goals
  refine aa hml ?_
  simp -implicitDefEqProofs [go_sem]
  refine aa hsb ?_
  simp -implicitDefEqProofs [go_sem,aL]
theorem zi (x:Rat) (h0:0≤x) (hs:sz x≤17179869184):ag Tryz.prog 317 [fA x] (.agg [.bool false,qA (Bn x)]):=by
 have hz1:=bX x
 have hz2:=cf x
 have ho:=eS x
 have hdm:=xC x.num.natAbs x.den (by omega) (by omega) x.den_nz
 have hnum:decide (x.num<0)=false:=by
  have:=Rat.num_nonneg.2 h0
  simp; omega
 unfold Bn
 unfold fA at *
 rw [hnum] at ho ⊢
 generalize x.num.natAbs / x.den=q at *
 generalize x.num.natAbs%x.den=r at *
 generalize x.num.natAbs=n at *
 generalize x.den=d at *
 simp only [nJ] at *
 refine Pg Tryz.func317 rfl [.cell 2 43] rfl (by simp -implicitDefEqProofs [go_sem,qA]) ?_
 unfold qA at *
 simp -implicitDefEqProofs [go_sem]
 refine aa ho ?_
 simp -implicitDefEqProofs [go_sem]
 refine aa hdm ?_
 simp -implicitDefEqProofs [go_sem,aL]
theorem Lw (n:Nat):fA (n:Rat) = .agg [.bool false,qA n,qA 1]:=by
 have h1:(n:Rat).num=n:=Rat.num_natCast n
 have h2:(n:Rat).den=1:=Rat.den_natCast n
 unfold fA
 rw [h1,h2]
 simp
theorem zJ (n:Nat):ag Tryz.prog 313 [.agg [.bool false,qA n]] (fA (n:Rat)):=by
 have ho:=fJ 1 (by omega)
 rw [Lw]
 refine Pg Tryz.func313 rfl [.cell 2 45] rfl (by simp -implicitDefEqProofs [go_sem,qA]) ?_
 unfold qA at *
 simp -implicitDefEqProofs [go_sem]
 refine aa ho ?_
 simp -implicitDefEqProofs [go_sem,aL]
theorem B4 (m:Nat) (k:Nat) (hk:k≤4096) (hm:nl m≤17179869184):ag Tryz.prog 315 [qA m,.int .i64 k] (fA ((m:Rat) / ((2 ^ k:Nat):Rat))):=by
 have ho:=fJ 1 (by omega)
 have h1:=nT k (by omega)
 have h5:=p8 (k:=k) (by omega)
 have h2:=gY (m:Int) (2 ^ k) (by simp only [Int.natAbs_natCast]; omega) (by omega) (D5 k)
 have e:mkRat (m:Int) (2 ^ k)=(m:Rat) / ((2 ^ k:Nat):Rat):=by
  have:=pN (m:Int) ((2 ^ k:Nat):Int)
  rw [if_neg (show ¬(((2 ^ k:Nat):Int)<0) from Int.not_lt.2 (Int.natCast_nonneg _)),Int.natAbs_natCast,Rat.intCast_natCast,Rat.intCast_natCast] at this
  exact this.symm
 rw [e] at h2
 generalize (m:Rat) / ((2 ^ k:Nat):Rat)=r at *
 generalize 2 ^ k=X at *
 simp only [nJ] at h2
 rw [bc] at *
 refine Pg Tryz.func315 rfl [.cell 4 45] rfl (by simp -implicitDefEqProofs [go_sem,kE]) ?_
 unfold qA at *
 simp -implicitDefEqProofs [go_sem]
 refine ac ho ?_
 simp -implicitDefEqProofs [go_sem]
 refine ac h1 ?_
 simp -implicitDefEqProofs [go_sem]
 refine ac h2 ?_
 simp -implicitDefEqProofs [go_sem,aL]
theorem vo (q:Rat) (k:Nat) (hk:k≤4096) (h0:0≤q) (hs:sz q≤16000):ag Tryz.prog 296 [fA q,.int .i64 k] (fA (cV q k)):=by
 obtain ⟨k2,hk2⟩:∃k2,k2=2*k:=⟨_,rfl⟩
 have e1:IntKind.i64.wrap (2*(k:Int))=(k2:Nat):=by rw [bS (by omega)]; omega
 have ho:=fJ 1 (by omega)
 have h1:=nT k2 (by omega)
 have h2:=zJ (2 ^ k2)
 have h4:=tV (2 ^ k2)
 have h5:=p8 (k:=k2) (by omega)
 have h3:=aN q ((2 ^ k2:Nat):Rat) (by omega) (by omega)
 have h6:=aJ q ((2 ^ k2:Nat):Rat)
 have hnn:0≤q*((2 ^ k2:Nat):Rat):=Rat.mul_nonneg h0 (by exact_mod_cast Nat.zero_le _)
 have h7:=zi (q*((2 ^ k2:Nat):Rat)) hnn (by omega)
 have h8:=H8 (q*((2 ^ k2:Nat):Rat))
 have h8':=PN (Bn (q*((2 ^ k2:Nat):Rat)))
 have h9:=A4 (Bn (q*((2 ^ k2:Nat):Rat))) (by omega)
 have hn:=xM (q:=q) hk
 have h10:=B4 (pX q k) k hk (by omega)
 rw [←DO] at h10
 generalize cV q k=r at *
 unfold pX at h10
 rw [←hk2] at h10
 generalize Bn (q*((2 ^ k2:Nat):Rat))=F at *
 generalize q*((2 ^ k2:Nat):Rat)=qq at *
 generalize j_ F=n at *
 generalize 2 ^ k2=X at *
 simp only [bc] at *
 refine Pg Tryz.func296 rfl [.cell 4 45] rfl (by simp -implicitDefEqProofs [go_sem,kE]) ?_
 unfold qA at *
 simp -implicitDefEqProofs [go_sem,e1]
 refine ac ho ?_
 simp -implicitDefEqProofs [go_sem,e1]
 refine ac h1 ?_
 simp -implicitDefEqProofs [go_sem]
 refine ac h2 ?_
 simp -implicitDefEqProofs [go_sem]
 refine ac h3 ?_
 simp -implicitDefEqProofs [go_sem]
 refine ac h7 ?_
 simp -implicitDefEqProofs [go_sem]
 refine ac h9 ?_
 simp -implicitDefEqProofs [go_sem]
 refine ac h10 ?_
 simp -implicitDefEqProofs [go_sem,aL]
theorem F4 (n:PQ) (left:Bool):(au n left).dot (au n left)=n.dot n:=by
 cases left
 ·unfold au PQ.neg PQ.dot; grind
 ·rfl
theorem Dn (p:PQ):eC p=fC p.x++fC p.y:=rfl
theorem nF (p:PQ):ag Tryz.prog 250 [eA p] (eA p.rot):=by
 have h1:=eB p.y
 rw [aP,aP,Dn,Dn]
 unfold PQ.rot
 simp only
 generalize -p.y=y at *
 simp only [bc] at h1
 refine Pg Tryz.func250 rfl [.cell 2 118] rfl (by simp -implicitDefEqProofs [go_sem,aF,kE]) ?_
 unfold fC at *
 simp -implicitDefEqProofs [go_sem]
 refine ao _ h1 (by simp [go_sem,qA]) ?_
 simp -implicitDefEqProofs [go_sem,aL,qA]
theorem sF (v:PQ) (h:Rat) (k:Nat) (hk:k≤4096) (hvs:v.sz≤1000) (hne:v≠⟨0,0⟩) (hh:sz h≤1000):ag Tryz.prog 248 [eA v,fA h,.int .i64 k] (eA (cj v h k)):=by
 have h1:=aN h h (by omega) (by omega)
 have s1:=aJ h h
 have h2:=bT v v (by omega) (by omega)
 have s2:=PQ.sz_dot v v
 have h3:=mw (h*h) (v.dot v) (by omega) (by omega) (BI hne)
 have s3:=C3 (v:=v) (h:=h)
 have h4:=vo (h*h / v.dot v) k hk (Ij h) (by omega)
 have s4:=pl (q:=h*h / v.dot v) hk
 have h5:=nF v
 have s5:=PQ.sz_rot v
 have h6:=iE v.rot (cV (h*h / v.dot v) k) (by omega) (by omega)
 unfold cj
 generalize v.rot.scale (cV (h*h / v.dot v) k)=n at *
 generalize cV (h*h / v.dot v) k=r at *
 generalize h*h / v.dot v=q at *
 generalize v.dot v=vv at *
 generalize v.rot=rt at *
 generalize h*h=hh' at *
 simp only [aP,bc] at *
 refine Pg Tryz.func248 rfl [.cell 6 118] rfl (by simp -implicitDefEqProofs [go_sem,bH]) ?_
 simp -implicitDefEqProofs [go_sem]
 refine aa h1 ?_
 simp -implicitDefEqProofs [go_sem]
 refine aa h2 ?_
 simp -implicitDefEqProofs [go_sem]
 refine aa h3 ?_
 simp -implicitDefEqProofs [go_sem]
 refine aa h4 ?_
 simp -implicitDefEqProofs [go_sem]
 refine aa h5 ?_
 simp -implicitDefEqProofs [go_sem]
 refine aa h6 ?_
 simp -implicitDefEqProofs [go_sem,aL]
theorem xd (n:PQ) (h tol:Rat) (hn:n.sz≤1000000) (hh:sz h≤1000) (ht:sz tol≤1000):ag Tryz.prog 249 [eA n,fA h,fA tol] (.bool (decide (jk n h tol))):=by
 have h1:=eT h tol (by omega) (by omega)
 have s1:=sz_sub h tol
 have h2:=bT n n (by omega) (by omega)
 have s2:=PQ.sz_dot n n
 have h3:=aE (n.dot n)
 have h4:=aE (h-tol)
 have h5:=aN (h-tol) (h-tol) (by omega) (by omega)
 have s5:=aJ (h-tol) (h-tol)
 have h6:=bC (n.dot n) ((h-tol)*(h-tol)) (by omega) (by omega)
 have z3:=bQ (x:=n.dot n)
 have z4:=bR (x:=h-tol)
 have z6:=iX (x:=n.dot n) (y:=(h-tol)*(h-tol))
 obtain ⟨B,hB⟩:∃B:Bool,B=decide (jk n h tol):=⟨_,rfl⟩
 have hen:B=true↔(0<n.dot n∧(h-tol≤0∨(h-tol)*(h-tol)≤n.dot n)):=by rw [hB,decide_eq_true_iff]; exact Iff.rfl
 rw [←hB]
 clear hB
 generalize bJ (n.dot n) ((h-tol)*(h-tol))=cm at *
 generalize n.dot n=nn at *
 generalize (h-tol)*(h-tol)=ll at *
 generalize h-tol=le at *
 simp only [aP,bc] at *
 refine Pg Tryz.func249 rfl [.tmp 6] rfl (by simp -implicitDefEqProofs [go_sem]) ?_
 simp -implicitDefEqProofs [go_sem]
 refine ac h1 ?_
 simp -implicitDefEqProofs [go_sem]
 refine ac h2 ?_
 simp -implicitDefEqProofs [go_sem]
 refine aa h3 ?_
 by_cases c1:0<nn
 ·simp -implicitDefEqProofs [go_sem,z3.2 c1]
  refine aa h4 ?_
  by_cases c2:le≤0
  ·have hb:=hen.2 ⟨c1,.inl c2⟩
   subst hb
   simp -implicitDefEqProofs [go_sem,z4.2 c2]
  ·have c2':¬aM le≤0:=fun hh=>c2 (z4.1 hh)
   simp -implicitDefEqProofs [go_sem,c2']
   refine aa h5 ?_
   simp -implicitDefEqProofs [go_sem]
   refine aa h6 ?_
   by_cases c3:ll≤nn
   ·have hb:=hen.2 ⟨c1,.inr c3⟩
    subst hb
    simp -implicitDefEqProofs [go_sem,z6.2 c3]
   ·have c3':¬0≤cm:=fun hh=>c3 (z6.1 hh)
    have hb:B=false:=Bool.eq_false_iff.2 fun hh=>(hen.1 hh).2.elim c2 c3
    subst hb
    simp -implicitDefEqProofs [go_sem,c3']
 ·have c1':¬0<aM nn:=fun hh=>c1 (z3.1 hh)
  have hb:B=false:=Bool.eq_false_iff.2 fun hh=>c1 (hen.1 hh).1
  subst hb
  simp -implicitDefEqProofs [go_sem,c1']
def zK (o:Option (PQ×Nat)):AV:=match o with
 | some (n,k) => .agg (eC n++[.int .i64 k,.int .i64 0])
 | none => .agg [.bool false,.sl 0 true [],.sl 0 true [],.bool false,.sl 0 true [],.sl 0 true [],.int .i64 0,.int .i64 24]
theorem Mz (o:Option (PQ×Nat)):ro (zK o):=by
 unfold zK
 split
 ·simp only [ro]; exact aF.2 ⟨bH _,by simp [roL,ro]⟩
 ·simp -implicitDefEqProofs [go_sem]
theorem mr (v:PQ) (h tol:Rat) (hvs:v.sz≤1000) (hne:v≠⟨0,0⟩) (hh:sz h≤1000) (h0:0<h) (hts:sz tol≤1000) (ht0:0<tol) :
 ag Tryz.prog 192 [eA v,fA h,fA tol] (zK (dt v h tol)):=by
 have g1:=bT v v (by omega) (by omega)
 have g2:=aE (v.dot v)
 have z2:¬aM (v.dot v)=0:=fun hh=>BI hne (eo.1 hh)
 have g3:=aE h
 have z3:¬aM h≤0:=fun hh=>absurd (bR.1 hh) (by grind)
 have g4:=aE tol
 have z4:¬aM tol≤0:=fun hh=>absurd (bR.1 hh) (by grind)
 refine ag.of_ca (Mz _) (Cg Tryz.func192 rfl [.cell 6 264] rfl ?_)
 have hat:=fun (k:Nat) (hk:k≤4096)=>sF v h k hk hvs hne hh
 generalize v.dot v=vv at *
 simp only [aP,bc] at *
 simp -implicitDefEqProofs [go_sem]
 refine ac g1 ?_
 simp -implicitDefEqProofs [go_sem]
 refine ac g2 ?_
 simp -implicitDefEqProofs [go_sem,z2]
 refine ac g3 ?_
 simp -implicitDefEqProofs [go_sem,z3]
 refine ac g4 ?_
 simp -implicitDefEqProofs [go_sem,z4]
 refine ap 4 (α:={k:Nat // k≤4097∧dt v h tol=ul v h tol (4097-k) k}) (fun k=>[(3,.ptr 0 0 0),(4,.ptr 1 0 0),(5,.ptr 2 0 0),(6,.ptr 3 0 0),(7,.int .i64 k.1)])
  (fun k=>[(0,.live 6 [.agg (eC v)]),(1,.live 3 [.agg (fC h)]),(2,.live 3 [.agg (fC tol)]),(3,.live 8 [.agg [.bool false,.sl 0 true [],.sl 0 true [],.bool false,.sl 0 true [],.sl 0 true [],.int .i64 0,.int .i64 0]])]) (fun k=>4097-k.1) ⟨0,by omega,rfl⟩ [] (by simp) (fun _ _ _ _ h=>h) (by omega) (by simp -implicitDefEqProofs [go_sem]) (by simp -implicitDefEqProofs [go_sem]) fun ⟨k,hk,hfk⟩=>?_
 simp -implicitDefEqProofs [go_sem]
 refine ⟨fun h4=>?_,fun h4=>?_⟩
 ·have hk':k≤4096:=by omega
  have ek:=wS k (by omega)
  have hfs:=vn (v:=v) (h:=h) (tol:=tol) hk'
  have ha:=hat k hk'
  have so:=lc (v:=v) (h:=h) hk'
  have he:=xd (cj v h k) h tol (by omega) (by omega) (by omega)
  generalize cj v h k=n at *
  simp only [aP,bc] at *
  refine ac ha ?_
  simp -implicitDefEqProofs [go_sem]
  refine ac he ?_
  by_cases hn:jk n h tol
  ·rw [decide_eq_true hn]
   have hg:zK (dt v h tol) = .agg (eC n++[.int .i64 k,.int .i64 0]):=by rw [hfk,hfs,if_pos hn]; rfl
   rw [hg]
   have d1:∀a b,List.drop 7 (eC n++[a,b])=[b]:=fun _ _=>rfl
   have d2:∀a b,List.take 8 (eC n++[a,b])=eC n++[a,b]:=fun _ _=>rfl
   have d3:roL (eC n++[.int .i64 k,.int .i64 0]):=aF.2 ⟨bH _,by simp [roL,ro]⟩
   simp -implicitDefEqProofs [go_sem,aL,d1,d2]
   rw [viewL_ro _ _ d3]
   exact ⟨fitsL_ro _ _ d3,d3,Wk.refl _⟩
  ·rw [decide_eq_false hn]
   simp -implicitDefEqProofs [go_sem,ek]
   exact ae ⟨k+1,by omega,by rw [hfk,hfs,if_neg hn]⟩ (by simp only; omega) [] (by simp) (fun _ _ _ _ h=>h) (by simp) (by simp -implicitDefEqProofs [go_sem]) (by simp -implicitDefEqProofs [go_sem])
 ·have hk':k=4097:=by omega
  subst hk'
  have:dt v h tol=none:=hfk
  rw [this]
  simp -implicitDefEqProofs [go_sem,aL,zK]
  exact Wk.refl _
theorem Sy:sz (2:Rat)≤1:=by
 have:=nW (x:=2) (by omega)
 simpa using this
theorem EY (x y:Rat) (hx:sz x≤17179869184) (hy:sz y≤17179869184):ag Tryz.prog 251 [fA x,fA y] (fA (if y<x then y else x)):=by
 have h:=bC y x hy hx
 have hc := @dJ y x
 generalize bJ y x=c at *
 refine Pg Tryz.func251 rfl [.cell 4 45] rfl (iJ _) ?_
 by_cases hl:y<x
 ·have h0:=hc.2 hl
  rw [if_pos hl]
  unfold fA qA at *
  simp -implicitDefEqProofs [go_sem]
  refine ac h ?_
  simp -implicitDefEqProofs [go_sem,h0,aL]
 ·have h0:¬c<0:=fun h=>hl (hc.1 h)
  rw [if_neg hl]
  unfold fA qA at *
  simp -implicitDefEqProofs [go_sem]
  refine ac h ?_
  simp -implicitDefEqProofs [go_sem,h0,aL]
theorem yV (p q:PQ) (hp:p.sz≤4294967296) (hq:q.sz≤4294967296):ag Tryz.prog 194 [eA p,eA q] (fA (p.cross q)):=by
 obtain ⟨p1,p2⟩:=eg p hp
 obtain ⟨q1,q2⟩:=eg q hq
 have h1:=aN p.x q.y (by omega) (by omega)
 have h2:=aN p.y q.x (by omega) (by omega)
 have s1:=aJ p.x q.y; have s2:=aJ p.y q.x
 have h3:=eT (p.x*q.y) (p.y*q.x) (by omega) (by omega)
 rw [show p.x*q.y-p.y*q.x=p.cross q from rfl] at h3
 refine Pg Tryz.func194 rfl [.cell 4 45] rfl (iJ _) ?_
 simp only [aP,bc] at *
 simp -implicitDefEqProofs [go_sem]
 refine aa h1 ?_
 simp -implicitDefEqProofs [go_sem]
 refine aa h2 ?_
 simp -implicitDefEqProofs [go_sem]
 refine aa h3 ?_
 simp -implicitDefEqProofs [go_sem,aL]
def mv (x:List PQ×Int):AV := .agg [eL x.1,.int .i64 x.2]
theorem tK (x:List PQ×Int):ro (mv x):=by unfold mv; simp only [ro,roL]; exact ⟨oW _,trivial,trivial⟩
theorem xh (e:Int):Wk (.agg [.sl 0 true [],.int .i64 e]) (mv ([],e)):=Wk.agg (.cons (Wk.nil 0 6 true) (.cons (Wk.refl _) .nil))
def c8 (w m t:Rat) (c j:Int):List AV:=[.bool (decide (w.num<0)),qA w.num.natAbs,qA w.den,.bool (decide (m.num<0)),qA m.num.natAbs,qA m.den,.int .i64 c,.int .i64 j,.bool (decide (t.num<0)),qA t.num.natAbs,qA t.den]
def uh (s:SR):AV := .agg (c8 s.width.val s.miter.val s.tol.val s.cap s.join)
theorem gw (w m t:Rat) (c j:Int):roL (c8 w m t c j):=by unfold c8 qA; simp -implicitDefEqProofs [go_sem]
theorem ji (s:SR) (hs:s.Sml):ag Tryz.prog 188 [uh s] (fA s.h):=by
 have f2:=cG 1 2 (by omega) (by omega) (by omega)
 rw [←dc] at f2
 have zh:=fv
 have zw:=hs.width.sz
 have g2:=aN s.width.val bB (by omega) (by omega)
 change ag _ _ _ (fA s.h) at g2
 refine Pg Tryz.func188 rfl [.cell 2 45] rfl (iJ _) ?_
 generalize s.h=h at *
 unfold uh c8
 unfold fA at *
 simp -implicitDefEqProofs [go_sem,qA]
 refine aa f2 ?_
 simp -implicitDefEqProofs [go_sem,qA]
 refine ao _ g2 (by simp [go_sem,qA]) ?_
 simp -implicitDefEqProofs [go_sem,aL,qA]
theorem jG (p:PQ) (left:Bool):ag Tryz.prog 198 [eA p,.bool left] (eA (au p left)):=by
 have h1:=eB p.x
 have h2:=eB p.y
 refine Pg Tryz.func198 rfl [.cell 4 118] rfl (qE _) ?_
 cases left
 ·rw [show au p false=⟨-p.x,-p.y⟩ from rfl]
  rw [aP,aP,Dn,Dn]
  simp only
  generalize -p.y=y at *
  generalize -p.x=x at *
  simp only [bc] at h1 h2
  unfold fC at *
  simp -implicitDefEqProofs [go_sem]
  refine ao _ h1 (by simp [go_sem,qA]) ?_
  simp -implicitDefEqProofs [go_sem]
  refine ao _ h2 (by simp [go_sem,qA]) ?_
  simp -implicitDefEqProofs [go_sem,aL,qA]
 ·rw [show au p true=p from rfl,aP]
  simp -implicitDefEqProofs [go_sem,aL]
theorem sK (d:Rat) (v:PQ) (h:Rat) (k:Nat) (hk:k≤4096) (hd0:d≠0) (hd:sz d≤2000) (hv:v.sz≤10) (hh:sz h≤10):ag Tryz.prog 252 [fA d,eA v,fA h,.int .i64 k] (fA (cV (h*h*v.dot v / (d*d)) k)):=by
 have h1:=aN h h (by omega) (by omega)
 have s1:=aJ h h
 have h2:=bT v v (by omega) (by omega)
 have s2:=PQ.sz_dot v v
 have h3:=aN (h*h) (v.dot v) (by omega) (by omega)
 have s3:=aJ (h*h) (v.dot v)
 have h4:=aN d d (by omega) (by omega)
 have s4:=aJ d d
 have hdd:d*d≠0:=fun e=>hd0 ((Rat.mul_eq_zero.1 e).elim id id)
 have h5:=mw (h*h*v.dot v) (d*d) (by omega) (by omega) hdd
 have s5:=iS (h*h*v.dot v) (d*d)
 have q0:0≤h*h*v.dot v / (d*d):=by
  rw [Rat.div_def]
  refine Rat.mul_nonneg (Rat.mul_nonneg (cQ h) (mo v)) (Rat.le_of_lt (Rat.inv_pos.2 ?_))
  have:=cQ d
  grind
 have h6:=vo (h*h*v.dot v / (d*d)) k hk q0 (by omega)
 generalize cV (h*h*v.dot v / (d*d)) k=r at *
 generalize h*h*v.dot v / (d*d)=q at *
 generalize h*h*v.dot v=a at *
 generalize v.dot v=vv at *
 generalize h*h=hh' at *
 generalize d*d=dd at *
 simp only [aP,bc] at *
 refine Pg Tryz.func252 rfl [.cell 8 45] rfl (by simp -implicitDefEqProofs [go_sem,kE]) ?_
 simp -implicitDefEqProofs [go_sem]
 refine aa h1 ?_
 simp -implicitDefEqProofs [go_sem]
 refine aa h2 ?_
 simp -implicitDefEqProofs [go_sem]
 refine aa h3 ?_
 simp -implicitDefEqProofs [go_sem]
 refine aa h4 ?_
 simp -implicitDefEqProofs [go_sem]
 refine aa h5 ?_
 simp -implicitDefEqProofs [go_sem]
 refine ac h6 ?_
 simp -implicitDefEqProofs [go_sem,aL]
theorem yU (n v:PQ) (h tol:Rat) (hn:n.sz≤1000000) (hv:v.sz≤1000) (hh:sz h≤1000) (ht:sz tol≤1000):ag Tryz.prog 254 [eA n,eA v,fA h,fA tol] (.bool (decide (iq (n.dot v) (h-tol) (v.dot v)))):=by
 have h1:=eT h tol (by omega) (by omega)
 have s1:=sz_sub h tol
 have h2:=bT n v (by omega) (by omega)
 have s2:=PQ.sz_dot n v
 have h3:=bT v v (by omega) (by omega)
 have s3:=PQ.sz_dot v v
 obtain ⟨B,hB⟩:∃B:Bool,B=decide (iq (n.dot v) (h-tol) (v.dot v)):=⟨_,rfl⟩
 have hen:B=true↔(if 0<h-tol then 0≤n.dot v∧(h-tol)*(h-tol)*v.dot v≤n.dot v*n.dot v else 0≤n.dot v∨n.dot v*n.dot v≤(h-tol)*(h-tol)*v.dot v):=by rw [hB,decide_eq_true_iff]; exact Iff.rfl
 rw [←hB]
 clear hB
 generalize h-tol=d at *
 generalize n.dot v=x at *
 generalize v.dot v=m at *
 have h4:=aE d
 have h5:=aE x
 have h6:=aN x x (by omega) (by omega)
 have s6:=aJ x x
 have h7:=aN d d (by omega) (by omega)
 have s7:=aJ d d
 have h8:=aN (d*d) m (by omega) (by omega)
 have s8:=aJ (d*d) m
 have h9:=bC (x*x) (d*d*m) (by omega) (by omega)
 have y4:=bR (x:=d)
 have y5:=oY (x:=x)
 have y9:=iX (x:=x*x) (y:=d*d*m)
 have y9':=iu (x:=x*x) (y:=d*d*m)
 generalize bJ (x*x) (d*d*m)=cm at *
 generalize d*d*m=dm at *
 generalize d*d=dd at *
 generalize x*x=xx at *
 generalize aM d=sd at *
 generalize aM x=sx at *
 simp only [aP,bc] at *
 refine Pg Tryz.func254 rfl [.tmp 8] rfl (by simp -implicitDefEqProofs [go_sem]) ?_
 simp -implicitDefEqProofs [go_sem]
 refine ac h1 ?_
 simp -implicitDefEqProofs [go_sem]
 refine ac h2 ?_
 simp -implicitDefEqProofs [go_sem]
 refine ac h4 ?_
 by_cases c1:d≤0
 ·rw [if_neg (by grind)] at hen
  simp -implicitDefEqProofs [go_sem,y4.2 c1]
  refine aa h5 ?_
  by_cases c2:0≤x
  ·have hb:=hen.2 (.inl c2)
   subst hb
   simp -implicitDefEqProofs [go_sem,y5.2 c2]
  ·have c2':¬0≤sx:=fun hh=>c2 (y5.1 hh)
   simp -implicitDefEqProofs [go_sem,c2']
   refine aa h6 ?_
   simp -implicitDefEqProofs [go_sem]
   refine aa h7 ?_
   simp -implicitDefEqProofs [go_sem]
   refine aa h3 ?_
   simp -implicitDefEqProofs [go_sem]
   refine aa h8 ?_
   simp -implicitDefEqProofs [go_sem]
   refine aa h9 ?_
   by_cases c3:xx≤dm
   ·have hb:=hen.2 (.inr c3)
    subst hb
    simp -implicitDefEqProofs [go_sem,y9'.2 c3]
   ·have c3':¬cm≤0:=fun hh=>c3 (y9'.1 hh)
    have hb:B=false:=Bool.eq_false_iff.2 fun hh=>(hen.1 hh).elim c2 c3
    subst hb
    simp -implicitDefEqProofs [go_sem,c3']
 ·rw [if_pos (by grind)] at hen
  have c1':¬sd≤0:=fun hh=>c1 (y4.1 hh)
  simp -implicitDefEqProofs [go_sem,c1']
  refine aa h5 ?_
  by_cases c2:0≤x
  ·simp -implicitDefEqProofs [go_sem,y5.2 c2]
   refine aa h6 ?_
   simp -implicitDefEqProofs [go_sem]
   refine aa h7 ?_
   simp -implicitDefEqProofs [go_sem]
   refine aa h3 ?_
   simp -implicitDefEqProofs [go_sem]
   refine aa h8 ?_
   simp -implicitDefEqProofs [go_sem]
   refine aa h9 ?_
   by_cases c3:dm≤xx
   ·have hb:=hen.2 ⟨c2,c3⟩
    subst hb
    simp -implicitDefEqProofs [go_sem,y9.2 c3]
   ·have c3':¬0≤cm:=fun hh=>c3 (y9.1 hh)
    have hb:B=false:=Bool.eq_false_iff.2 fun hh=>c3 (hen.1 hh).2
    subst hb
    simp -implicitDefEqProofs [go_sem,c3']
  ·have c2':¬0≤sx:=fun hh=>c2 (y5.1 hh)
   have hb:B=false:=Bool.eq_false_iff.2 fun hh=>c2 (hen.1 hh).1
   subst hb
   simp -implicitDefEqProofs [go_sem,c2']
theorem FY {d c M:Rat} (hM:0≤M):iq d c M↔if 0≤d then c≤0∨c*c*M≤d*d else c<0∧d*d≤c*c*M:=by
 unfold iq
 by_cases h1:0<c
 ·rw [if_pos h1]
  by_cases h2:0≤d
  ·rw [if_pos h2]
   exact ⟨fun h => .inr h.2,fun h=>⟨h2,h.resolve_left (by grind)⟩⟩
  ·rw [if_neg h2]
   exact ⟨fun h=>absurd h.1 h2,fun h=>absurd h.1 (by grind)⟩
 ·rw [if_neg h1]
  by_cases h2:0≤d
  ·rw [if_pos h2]
   exact ⟨fun _ => .inl (by grind),fun _ => .inl h2⟩
  ·rw [if_neg h2]
   constructor
   ·intro h
    have h3:=h.resolve_left h2
    refine ⟨?_,h3⟩
    rcases Classical.em (c=0) with e|e
    ·exfalso
     have:=Rat.mul_pos (show 0 < -d by grind) (show 0 < -d by grind)
     rw [e] at h3
     grind
    ·grind
   ·exact fun h => .inr h.2
theorem pQ (s:SR):ag Tryz.prog 187 [uh s] (.bool (decide (jQ s))):=by
 have g1:=aE s.width.val
 have g2:=aE s.tol.val
 have z1:=bQ (x:=s.width.val)
 have z2:=bQ (x:=s.tol.val)
 have hB:decide (jQ s)=(decide (0<aM s.width.val) && (decide (0<aM s.tol.val) && (decide (0≤s.cap) && decide (s.cap≤2)))):=by
  rw [←Bool.decide_and,←Bool.decide_and,←Bool.decide_and,decide_eq_decide,z1,z2]; exact Iff.rfl
 rw [hB]
 unfold uh
 generalize aM s.width.val=s1 at *
 generalize aM s.tol.val=s2 at *
 generalize s.width.val=w at *
 generalize s.tol.val=t at *
 generalize s.miter.val=m at *
 generalize s.cap=C at *
 generalize s.join=J at *
 clear hB z1 z2
 simp only [bc] at *
 unfold c8 fC at *
 refine Pg Tryz.func187 rfl [.tmp 2] rfl (by simp -implicitDefEqProofs [go_sem]) ?_
 simp -implicitDefEqProofs [go_sem]
 refine ac g1 ?_
 by_cases a1:0<s1
 ·simp -implicitDefEqProofs [go_sem,a1]
  refine ac g2 ?_
  by_cases a2:0<s2
  ·by_cases a3:0≤C
   ·by_cases a4:C≤2
    ·simp -implicitDefEqProofs [go_sem,a2,a3,a4]
    ·simp -implicitDefEqProofs [go_sem,a2,a3,a4]
   ·simp -implicitDefEqProofs [go_sem,a2,a3]
  ·simp -implicitDefEqProofs [go_sem,a2]
 ·simp -implicitDefEqProofs [go_sem,a1]
theorem BJ (a b:PQ) (s:SR) (ha:a.sz≤1) (hb:b.sz≤1) (hs:s.Sml):ag Tryz.prog 113 [eA a,eA b,uh s] (mv (fk a b s)):=by
 have hh:=hs.h
 have zt:=hs.tol.sz
 have k0:=pQ s
 have k1:=nH a b (by omega) (by omega)
 have k2:=dr b a (by omega) (by omega)
 have z2:=PQ.sz_sub b a
 have k3:=ji s hs
 refine ag.of_ca (tK _) (Cg Tryz.func113 rfl [.cell 6 190] rfl ?_)
 obtain ⟨RES,hRES⟩:∃R,R=mv (fk a b s):=⟨_,rfl⟩
 rw [←hRES]
 unfold fk at hRES
 have hW:∀e:Int,Wk (.agg [.sl 0 true [],.int .i64 e]) (mv ([],e)):=xh
 unfold uh at *
 have q1:(c8 s.width.val s.miter.val s.tol.val s.cap s.join).length=11:=rfl
 have q2:(c8 s.width.val s.miter.val s.tol.val s.cap s.join).drop 8=fC s.tol.val:=rfl
 have q3:(c8 s.width.val s.miter.val s.tol.val s.cap s.join).take 11=c8 s.width.val s.miter.val s.tol.val s.cap s.join:=rfl
 have q4:(c8 s.width.val s.miter.val s.tol.val s.cap s.join).drop 11=[]:=rfl
 have q5:=gw s.width.val s.miter.val s.tol.val s.cap s.join
 generalize c8 s.width.val s.miter.val s.tol.val s.cap s.join=S at *
 by_cases a0:jQ s
 ·rw [if_neg (fun h=>h a0)] at hRES
  rw [decide_eq_true a0] at k0
  by_cases a1:a=b
  ·rw [if_pos a1] at hRES
   rw [decide_eq_true a1] at k1
   simp only [aP,bc] at *
   simp -implicitDefEqProofs [go_sem,q1,q3,q4]
   refine ah _ k0 (by simp [go_sem,q5]) ?_
   simp -implicitDefEqProofs [go_sem]
   refine ac k1 ?_
   simp -implicitDefEqProofs [go_sem,aL]
   rw [hRES]
   exact hW 12
  ·rw [if_neg a1] at hRES
   rw [decide_eq_false a1] at k1
   have h0:0<s.h:=Rat.mul_pos a0.1 gc
   have k4:=mr (b.sub a) s.h s.tol.val (by omega) (fun h=>a1 (sub_zero.1 h)) (by omega) h0 (by omega) a0.2.1
   cases hf:dt (b.sub a) s.h s.tol.val with
   | none =>
    rw [hf] at hRES k4
    unfold zK at k4
    simp only at k4
    generalize s.h=h at *
    generalize s.tol.val=tol at *
    generalize b.sub a=d at *
    simp only [aP,bc] at *
    simp -implicitDefEqProofs [go_sem,q1,q3,q4]
    refine ah _ k0 (by simp [go_sem,q5]) ?_
    simp -implicitDefEqProofs [go_sem,q1,q3,q4]
    refine ac k1 ?_
    simp -implicitDefEqProofs [go_sem,q1,q3,q4]
    refine aa k2 ?_
    simp -implicitDefEqProofs [go_sem,q1,q3,q4]
    refine ao _ k3 (by simp [go_sem,q5]) ?_
    simp -implicitDefEqProofs [go_sem,q1,q2,q3,q4]
    refine aa k4 ?_
    simp -implicitDefEqProofs [go_sem,aL]
    rw [hRES]
    exact hW 24
   | some x =>
    obtain ⟨n,k⟩:=x
    have zn:=fY hf (by omega) (by omega)
    rw [hf] at hRES k4
    unfold zK at k4
    simp only at k4 hRES
    have e1:∀(n:PQ) (a b:AV),List.drop 7 (eC n++[a,b])=[b]:=fun _ _ _=>rfl
    have e2:∀(n:PQ) (a b:AV),List.take 8 (eC n++[a,b])=eC n++[a,b]:=fun _ _ _=>rfl
    have e3:∀(n:PQ) (a b:AV),(eC n++[a,b]).length=8:=fun _ _ _=>rfl
    have e4:∀(n:PQ) (a b:AV),List.take 6 (eC n++[a,b])=eC n:=fun _ _ _=>rfl
    have e5:∀(n:PQ) (a b:AV),List.drop 8 (eC n++[a,b])=[]:=fun _ _ _=>rfl
    have p1:=dr a n (by omega) (by omega)
    have p2:=dr b n (by omega) (by omega)
    have p3:=cT b n (by omega) (by omega)
    have p4:=cT a n (by omega) (by omega)
    unfold bh at hRES
    generalize a.sub n=P1 at *
    generalize b.sub n=P2 at *
    generalize b.add n=P3 at *
    generalize a.add n=P4 at *
    generalize s.h=h at *
    generalize s.tol.val=tol at *
    generalize b.sub a=d at *
    unfold mv eL at hRES
    simp only [List.map_cons,List.map_nil] at hRES
    simp only [aP,bc] at *
    simp -implicitDefEqProofs [go_sem,q1,q3,q4]
    refine ah _ k0 (by simp [go_sem,q5]) ?_
    simp -implicitDefEqProofs [go_sem,q1,q3,q4]
    refine ac k1 ?_
    simp -implicitDefEqProofs [go_sem,q1,q3,q4]
    refine aa k2 ?_
    simp -implicitDefEqProofs [go_sem,q1,q3,q4]
    refine ao _ k3 (by simp [go_sem,q5]) ?_
    simp -implicitDefEqProofs [go_sem,q1,q2,q3,q4]
    refine aa k4 ?_
    simp -implicitDefEqProofs [go_sem,e1,e2,e3,e4,e5]
    refine aa p1 ?_
    simp -implicitDefEqProofs [go_sem,e1,e2,e3,e4,e5]
    refine aa p2 ?_
    simp -implicitDefEqProofs [go_sem,e1,e2,e3,e4,e5]
    refine aa p3 ?_
    simp -implicitDefEqProofs [go_sem,e1,e2,e3,e4,e5]
    refine aa p4 ?_
    simp -implicitDefEqProofs [go_sem,aL,bH]
    rw [hRES]
    exact Wk.refl _
 ·rw [if_pos a0] at hRES
  rw [decide_eq_false a0] at k0
  simp only [aP,bc] at *
  simp -implicitDefEqProofs [go_sem,q1,q3,q4]
  refine ah _ k0 (by simp [go_sem,q5]) ?_
  simp -implicitDefEqProofs [go_sem,aL]
  rw [hRES]
  exact hW 1
theorem Ix (L:List (List PQ)):ro (yp L):=by unfold yp; simp only [ro]; exact jL L
theorem uZ (p u:PQ) (s:SR) (hp:p.sz≤1) (hu:u.sz≤10) (hs:s.Sml):ag Tryz.prog 115 [eA p,eA u,uh s] (mv (gX p u s)):=by
 have hh:=hs.h
 have zt:=hs.tol.sz
 have k0:=pQ s
 have d1:=bT u u (by omega) (by omega)
 have d2:=aE (u.dot u)
 have d3:=eo (x:=u.dot u)
 rw [dot0] at d3
 have k3:=ji s hs
 have kr:=lG p s.h s.tol.val (by omega) (by omega) (by omega)
 have kf:=fun (h0:0<s.h) (ht:0<s.tol.val) (hu0:u≠⟨0,0⟩)=>mr u s.h s.tol.val (by omega) hu0 (by omega) h0 (by omega) ht
 have hfs:=fun n k (hf:dt u s.h s.tol.val=some (n,k))=>fY hf (by omega) (by omega)
 refine ag.of_ca (tK _) (Cg Tryz.func115 rfl [.cell 6 190] rfl ?_)
 obtain ⟨RES,hRES⟩:∃R,R=mv (gX p u s):=⟨_,rfl⟩
 rw [←hRES]
 unfold gX I6 at hRES
 have hW:∀e:Int,Wk (.agg [.sl 0 true [],.int .i64 e]) (mv ([],e)):=xh
 have hc0:jQ s→0≤s.cap∧s.cap≤2:=fun h=>h.2.2
 have hw0:jQ s→0<s.h:=fun h=>Rat.mul_pos h.1 gc
 have ht0:jQ s→0<s.tol.val:=fun h=>h.2.1
 unfold uh at *
 generalize s.h=h at *
 generalize s.tol.val=tol at *
 generalize s.width.val=w at *
 generalize s.miter.val=m at *
 generalize s.cap=C at *
 generalize s.join=J at *
 have hC:∀c:Int,c=c:=fun _=>rfl
 clear hC
 generalize aM (u.dot u)=g1 at *
 generalize u.dot u=uu at *
 by_cases a0:jQ s
 ·rw [if_neg (fun h=>h a0)] at hRES
  rw [decide_eq_true a0] at k0
  have h0:=hw0 a0
  have t0:=ht0 a0
  have c0:=hc0 a0
  clear hw0 ht0 hc0
  by_cases a1:u=⟨0,0⟩
  ·rw [if_pos a1] at hRES
   have q1:(c8 w m tol C J).length=11:=rfl
   have q2:(c8 w m tol C J).drop 8=fC tol:=rfl
   have q3:(c8 w m tol C J).take 11=c8 w m tol C J:=rfl
   have q4:(c8 w m tol C J).drop 11=[]:=rfl
   have q6:(c8 w m tol C J).drop 6 = .int .i64 C::(c8 w m tol C J).drop 7:=rfl
   have q5:=gw w m tol C J
   generalize c8 w m tol C J=S at *
   simp only [aP,bc] at *
   simp -implicitDefEqProofs [go_sem,q1,q3,q4]
   refine ah _ k0 (by simp [go_sem,q5]) ?_
   simp -implicitDefEqProofs [go_sem,q1,q3,q4]
   refine ac d1 ?_
   simp -implicitDefEqProofs [go_sem]
   refine ac d2 ?_
   simp -implicitDefEqProofs [go_sem,d3.2 a1,aL]
   rw [hRES]
   exact hW 12
  have a1':¬g1=0:=fun h=>a1 (d3.1 h)
  rw [if_neg a1] at hRES
  have kf:=kf h0 t0 a1
  rcases (show C=0∨C=1∨C=2 by omega) with rfl|rfl|rfl
  ·rw [if_pos rfl] at hRES
   have q1:(c8 w m tol 0 J).length=11:=rfl
   have q2:(c8 w m tol 0 J).drop 8=fC tol:=rfl
   have q3:(c8 w m tol 0 J).take 11=c8 w m tol 0 J:=rfl
   have q4:(c8 w m tol 0 J).drop 11=[]:=rfl
   have q6:(c8 w m tol 0 J).drop 6 = .int .i64 0::(c8 w m tol 0 J).drop 7:=rfl
   have q5:=gw w m tol 0 J
   generalize c8 w m tol 0 J=S at *
   simp only [aP,bc] at *
   simp -implicitDefEqProofs [go_sem,q1,q3,q4]
   refine ah _ k0 (by simp [go_sem,q5]) ?_
   simp -implicitDefEqProofs [go_sem,q1,q3,q4]
   refine ac d1 ?_
   simp -implicitDefEqProofs [go_sem]
   refine ac d2 ?_
   simp -implicitDefEqProofs [go_sem,a1',q1,q2,q3,q4,q6,aL]
   rw [hRES]
   exact hW 0
  ·rw [if_neg (by decide),if_pos rfl] at hRES
   have q1:(c8 w m tol 1 J).length=11:=rfl
   have q2:(c8 w m tol 1 J).drop 8=fC tol:=rfl
   have q3:(c8 w m tol 1 J).take 11=c8 w m tol 1 J:=rfl
   have q4:(c8 w m tol 1 J).drop 11=[]:=rfl
   have q6:(c8 w m tol 1 J).drop 6 = .int .i64 1::(c8 w m tol 1 J).drop 7:=rfl
   have q5:=gw w m tol 1 J
   generalize c8 w m tol 1 J=S at *
   cases hf:dt u h tol with
   | none =>
    rw [hf] at hRES kf
    unfold zK at kf
    simp only at kf
    simp only [aP,bc] at *
    simp -implicitDefEqProofs [go_sem,q1,q3,q4]
    refine ah _ k0 (by simp [go_sem,q5]) ?_
    simp -implicitDefEqProofs [go_sem,q1,q3,q4]
    refine ac d1 ?_
    simp -implicitDefEqProofs [go_sem]
    refine ac d2 ?_
    simp -implicitDefEqProofs [go_sem,a1',q1,q2,q3,q4,q6]
    refine ao _ k3 (by simp [go_sem,q5]) ?_
    simp -implicitDefEqProofs [go_sem,q1,q2,q3,q4]
    refine aa kf ?_
    simp -implicitDefEqProofs [go_sem,aL]
    rw [hRES]
    exact hW 24
   | some x =>
    obtain ⟨n,k⟩:=x
    have zn:=hfs n k hf
    rw [hf] at hRES kf
    unfold zK at kf
    simp only at kf hRES
    have e1:∀(n:PQ) (a b:AV),List.drop 7 (eC n++[a,b])=[b]:=fun _ _ _=>rfl
    have e2:∀(n:PQ) (a b:AV),List.take 8 (eC n++[a,b])=eC n++[a,b]:=fun _ _ _=>rfl
    have e3:∀(n:PQ) (a b:AV),(eC n++[a,b]).length=8:=fun _ _ _=>rfl
    have e4:∀(n:PQ) (a b:AV),List.take 6 (eC n++[a,b])=eC n:=fun _ _ _=>rfl
    have e5:∀(n:PQ) (a b:AV),List.drop 8 (eC n++[a,b])=[]:=fun _ _ _=>rfl
    have e6:∀(n:PQ) (a b:AV),List.take 3 (eC n++[a,b])=fC n.x:=fun _ _ _=>rfl
    have e7:∀(n:PQ) (a b:AV),List.take 3 (List.drop 3 (eC n++[a,b]))=fC n.y:=fun _ _ _=>rfl
    have hnx:sz n.x≤7261:=Nat.le_trans (Nat.le_max_left _ _) zn
    have hny:sz n.y≤7261:=Nat.le_trans (Nat.le_max_right _ _) zn
    have zm:PQ.sz ⟨n.y,-n.x⟩≤7261:=Nat.max_le.2 ⟨hny,by rw [sz_neg]; exact hnx⟩
    have r1:=eB n.x
    have r2:=dr p n (by omega) (by omega)
    have r3:=cT p n (by omega) (by omega)
    have y2:=PQ.sz_sub p n
    have y3:=PQ.sz_add p n
    have r4:=cT (p.sub n) ⟨n.y,-n.x⟩ (by omega) (by omega)
    have r5:=cT (p.add n) ⟨n.y,-n.x⟩ (by omega) (by omega)
    have hE:eA ⟨n.y,-n.x⟩ = .agg (fC n.y++fC (-n.x)):=rfl
    rw [hE] at r4 r5
    have f1:(p.add ⟨n.y,-n.x⟩).sub n=(p.sub n).add ⟨n.y,-n.x⟩:=PQ.ext (by unfold PQ.add PQ.sub; simp only; grind) (by unfold PQ.add PQ.sub; simp only; grind)
    have f2:(p.add ⟨n.y,-n.x⟩).add n=(p.add n).add ⟨n.y,-n.x⟩:=PQ.ext (by unfold PQ.add; simp only; grind) (by unfold PQ.add; simp only; grind)
    unfold bh at hRES
    rw [f1,f2] at hRES
    clear f1 f2 hE
    generalize (p.sub n).add ⟨n.y,-n.x⟩=P2 at *
    generalize (p.add n).add ⟨n.y,-n.x⟩=P3 at *
    generalize p.sub n=P1 at *
    generalize p.add n=P4 at *
    generalize -n.x=nx at *
    unfold mv eL at hRES
    simp only [List.map_cons,List.map_nil] at hRES
    simp only [aP,bc] at *
    simp -implicitDefEqProofs [go_sem,q1,q3,q4]
    refine ah _ k0 (by simp [go_sem,q5]) ?_
    simp -implicitDefEqProofs [go_sem,q1,q3,q4]
    refine ac d1 ?_
    simp -implicitDefEqProofs [go_sem]
    refine ac d2 ?_
    simp -implicitDefEqProofs [go_sem,a1',q1,q2,q3,q4,q6]
    refine ao _ k3 (by simp [go_sem,q5]) ?_
    simp -implicitDefEqProofs [go_sem,q1,q2,q3,q4]
    refine ao _ kf (by simp [go_sem,bH,kE,aF]) ?_
    simp -implicitDefEqProofs [go_sem,e1,e2,e3,e4,e5,e6,e7]
    refine aa r1 ?_
    simp -implicitDefEqProofs [go_sem,e1,e2,e3,e4,e5,e6,e7]
    refine aa r2 ?_
    simp -implicitDefEqProofs [go_sem,e1,e2,e3,e4,e5,e6,e7]
    refine aa r3 ?_
    have t6:∀a b:Rat,List.take 6 (fC a++fC b)=fC a++fC b:=fun _ _=>rfl
    have t7:∀a b:Rat,roL (fC a++fC b):=fun a b=>aF.2 ⟨kE a,kE b⟩
    simp -implicitDefEqProofs [go_sem,t6,t7]
    refine ao _ r4 (by simp [go_sem,bH,t6,t7]) ?_
    simp -implicitDefEqProofs [go_sem,t6,t7]
    refine ao _ r5 (by simp [go_sem,bH,t6,t7]) ?_
    simp -implicitDefEqProofs [go_sem,aL,bH]
    rw [hRES]
    exact Wk.refl _
  ·rw [if_neg (by decide),if_neg (by decide)] at hRES
   have q1:(c8 w m tol 2 J).length=11:=rfl
   have q2:(c8 w m tol 2 J).drop 8=fC tol:=rfl
   have q3:(c8 w m tol 2 J).take 11=c8 w m tol 2 J:=rfl
   have q4:(c8 w m tol 2 J).drop 11=[]:=rfl
   have q6:(c8 w m tol 2 J).drop 6 = .int .i64 2::(c8 w m tol 2 J).drop 7:=rfl
   have q5:=gw w m tol 2 J
   generalize c8 w m tol 2 J=S at *
   generalize mV p h tol=RN at *
   unfold mv at hRES
   unfold eL at hRES kr
   simp only [aP,bc] at *
   simp -implicitDefEqProofs [go_sem,q1,q3,q4]
   refine ah _ k0 (by simp [go_sem,q5]) ?_
   simp -implicitDefEqProofs [go_sem,q1,q3,q4]
   refine ac d1 ?_
   simp -implicitDefEqProofs [go_sem]
   refine ac d2 ?_
   simp -implicitDefEqProofs [go_sem,a1',q1,q2,q3,q4,q6]
   refine ao _ k3 (by simp [go_sem,q5]) ?_
   simp -implicitDefEqProofs [go_sem,q1,q2,q3,q4]
   refine aa kr ?_
   simp -implicitDefEqProofs [go_sem,aL,bH]
   rw [hRES]
   exact Wk.refl _
 ·rw [if_pos a0] at hRES
  rw [decide_eq_false a0] at k0
  have q1:(c8 w m tol C J).length=11:=rfl
  have q2:(c8 w m tol C J).drop 8=fC tol:=rfl
  have q3:(c8 w m tol C J).take 11=c8 w m tol C J:=rfl
  have q4:(c8 w m tol C J).drop 11=[]:=rfl
  have q6:(c8 w m tol C J).drop 6 = .int .i64 C::(c8 w m tol C J).drop 7:=rfl
  have q5:=gw w m tol C J
  generalize c8 w m tol C J=S at *
  simp only [aP,bc] at *
  simp -implicitDefEqProofs [go_sem,q1,q3,q4]
  refine ah _ k0 (by simp [go_sem,q5]) ?_
  simp -implicitDefEqProofs [go_sem,aL]
  rw [hRES]
  exact hW 1
theorem BK (p:PQ) (s:SR) (hp:p.sz≤1) (hs:s.Sml):ag Tryz.prog 111 [eA p,uh s] (mv (fW p s)):=by
 have hh:=hs.h
 have zt:=hs.tol.sz
 have k0:=pQ s
 have k3:=ji s hs
 have kr:=lG p s.h s.tol.val (by omega) (by omega) (by omega)
 have km:=eB s.h
 have zmm:sz (-s.h)≤1:=by rw [sz_neg]; exact hh
 have zz:∀a b:Rat,sz a≤1→sz b≤1→PQ.sz ⟨a,b⟩≤1:=fun a b h1 h2=>Nat.max_le.2 ⟨h1,h2⟩
 have p1:=cT p ⟨-s.h,-s.h⟩ (by omega) (Nat.le_trans (zz _ _ zmm zmm) (by omega))
 have p2:=cT p ⟨s.h,-s.h⟩ (by omega) (Nat.le_trans (zz _ _ hh zmm) (by omega))
 have p3:=cT p ⟨s.h,s.h⟩ (by omega) (Nat.le_trans (zz _ _ hh hh) (by omega))
 have p4:=cT p ⟨-s.h,s.h⟩ (by omega) (Nat.le_trans (zz _ _ zmm hh) (by omega))
 have hE:∀a b:Rat,eA ⟨a,b⟩ = .agg (fC a++fC b):=fun _ _=>rfl
 rw [hE] at p1 p2 p3 p4
 have f1:(p.sub ⟨s.h,0⟩).sub ⟨0,s.h⟩=p.add ⟨-s.h,-s.h⟩:=PQ.ext (by unfold PQ.add PQ.sub; simp only; grind) (by unfold PQ.add PQ.sub; simp only; grind)
 have f2:(p.add ⟨s.h,0⟩).sub ⟨0,s.h⟩=p.add ⟨s.h,-s.h⟩:=PQ.ext (by unfold PQ.add PQ.sub; simp only; grind) (by unfold PQ.add PQ.sub; simp only; grind)
 have f3:(p.add ⟨s.h,0⟩).add ⟨0,s.h⟩=p.add ⟨s.h,s.h⟩:=PQ.ext (by unfold PQ.add; simp only; grind) (by unfold PQ.add; simp only; grind)
 have f4:(p.sub ⟨s.h,0⟩).add ⟨0,s.h⟩=p.add ⟨-s.h,s.h⟩:=PQ.ext (by unfold PQ.add PQ.sub; simp only; grind) (by unfold PQ.add PQ.sub; simp only; grind)
 refine ag.of_ca (tK _) (Cg Tryz.func111 rfl [.cell 4 190] rfl ?_)
 obtain ⟨RES,hRES⟩:∃R,R=mv (fW p s):=⟨_,rfl⟩
 rw [←hRES]
 unfold fW bh at hRES
 rw [f1,f2,f3,f4] at hRES
 clear f1 f2 f3 f4 hE zz
 generalize p.add ⟨-s.h,-s.h⟩=P1 at *
 generalize p.add ⟨s.h,-s.h⟩=P2 at *
 generalize p.add ⟨s.h,s.h⟩=P3 at *
 generalize p.add ⟨-s.h,s.h⟩=P4 at *
 generalize -s.h=mh at *
 have t6:∀a b:Rat,List.take 6 (fC a++fC b)=fC a++fC b:=fun _ _=>rfl
 have t7:∀a b:Rat,roL (fC a++fC b):=fun a b=>aF.2 ⟨kE a,kE b⟩
 have hW:∀e:Int,Wk (.agg [.sl 0 true [],.int .i64 e]) (mv ([],e)):=xh
 have hc0:jQ s→0≤s.cap∧s.cap≤2:=fun h=>h.2.2
 unfold uh at *
 generalize s.h=h at *
 generalize s.tol.val=tol at *
 generalize s.width.val=w at *
 generalize s.miter.val=m at *
 generalize s.cap=C at *
 generalize s.join=J at *
 by_cases a0:jQ s
 ·rw [if_neg (fun h=>h a0)] at hRES
  rw [decide_eq_true a0] at k0
  have c0:=hc0 a0
  clear hc0
  rcases (show C=0∨C=1∨C=2 by omega) with rfl|rfl|rfl
  ·rw [if_neg (by decide),if_neg (by decide)] at hRES
   have q1:(c8 w m tol 0 J).length=11:=rfl
   have q2:(c8 w m tol 0 J).drop 8=fC tol:=rfl
   have q3:(c8 w m tol 0 J).take 11=c8 w m tol 0 J:=rfl
   have q4:(c8 w m tol 0 J).drop 11=[]:=rfl
   have q6:(c8 w m tol 0 J).drop 6 = .int .i64 0::(c8 w m tol 0 J).drop 7:=rfl
   have q5:=gw w m tol 0 J
   generalize c8 w m tol 0 J=S at *
   simp only [aP,bc] at *
   simp -implicitDefEqProofs [go_sem,q1,q3,q4]
   refine ah _ k0 (by simp [go_sem,q5]) ?_
   simp -implicitDefEqProofs [go_sem,q1,q3,q4]
   refine ah _ k3 (by simp [go_sem,q5]) ?_
   simp -implicitDefEqProofs [go_sem,q1,q2,q3,q4,q6,aL]
   rw [hRES]
   exact hW 0
  ·rw [if_pos rfl] at hRES
   have q1:(c8 w m tol 1 J).length=11:=rfl
   have q2:(c8 w m tol 1 J).drop 8=fC tol:=rfl
   have q3:(c8 w m tol 1 J).take 11=c8 w m tol 1 J:=rfl
   have q4:(c8 w m tol 1 J).drop 11=[]:=rfl
   have q6:(c8 w m tol 1 J).drop 6 = .int .i64 1::(c8 w m tol 1 J).drop 7:=rfl
   have q5:=gw w m tol 1 J
   generalize c8 w m tol 1 J=S at *
   unfold mv eL at hRES
   simp only [List.map_cons,List.map_nil] at hRES
   simp only [aP,bc] at *
   simp -implicitDefEqProofs [go_sem,q1,q3,q4]
   refine ah _ k0 (by simp [go_sem,q5]) ?_
   simp -implicitDefEqProofs [go_sem,q1,q3,q4]
   refine ah _ k3 (by simp [go_sem,q5]) ?_
   simp -implicitDefEqProofs [go_sem,q1,q2,q3,q4,q6]
   refine ac km ?_
   simp -implicitDefEqProofs [go_sem,t6,t7]
   refine ao _ p1 (by simp [go_sem,bH,t6,t7]) ?_
   simp -implicitDefEqProofs [go_sem,t6,t7]
   refine ao _ p2 (by simp [go_sem,bH,t6,t7]) ?_
   simp -implicitDefEqProofs [go_sem,t6,t7]
   refine ao _ p3 (by simp [go_sem,bH,t6,t7]) ?_
   simp -implicitDefEqProofs [go_sem,t6,t7]
   refine ao _ p4 (by simp [go_sem,bH,t6,t7]) ?_
   simp -implicitDefEqProofs [go_sem,aL,bH]
   rw [hRES]
   exact Wk.refl _
  ·rw [if_neg (by decide),if_pos rfl] at hRES
   have q1:(c8 w m tol 2 J).length=11:=rfl
   have q2:(c8 w m tol 2 J).drop 8=fC tol:=rfl
   have q3:(c8 w m tol 2 J).take 11=c8 w m tol 2 J:=rfl
   have q4:(c8 w m tol 2 J).drop 11=[]:=rfl
   have q6:(c8 w m tol 2 J).drop 6 = .int .i64 2::(c8 w m tol 2 J).drop 7:=rfl
   have q5:=gw w m tol 2 J
   generalize c8 w m tol 2 J=S at *
   generalize mV p h tol=RN at *
   unfold mv at hRES
   unfold eL at hRES kr
   simp only [aP,bc] at *
   simp -implicitDefEqProofs [go_sem,q1,q3,q4]
   refine ah _ k0 (by simp [go_sem,q5]) ?_
   simp -implicitDefEqProofs [go_sem,q1,q3,q4]
   refine ah _ k3 (by simp [go_sem,q5]) ?_
   simp -implicitDefEqProofs [go_sem,q1,q2,q3,q4,q6]
   refine ac kr ?_
   simp -implicitDefEqProofs [go_sem,aL,bH]
   rw [hRES]
   exact Wk.refl _
 ·rw [if_pos a0] at hRES
  rw [decide_eq_false a0] at k0
  have q1:(c8 w m tol C J).length=11:=rfl
  have q2:(c8 w m tol C J).drop 8=fC tol:=rfl
  have q3:(c8 w m tol C J).take 11=c8 w m tol C J:=rfl
  have q4:(c8 w m tol C J).drop 11=[]:=rfl
  have q6:(c8 w m tol C J).drop 6 = .int .i64 C::(c8 w m tol C J).drop 7:=rfl
  have q5:=gw w m tol C J
  generalize c8 w m tol C J=S at *
  simp only [aP,bc] at *
  simp -implicitDefEqProofs [go_sem,q1,q3,q4]
  refine ah _ k0 (by simp [go_sem,q5]) ?_
  simp -implicitDefEqProofs [go_sem,aL]
  rw [hRES]
  exact hW 1
theorem y_ (u v:PQ) (m:Rat) (hu:u.sz≤10) (hv:v.sz≤10) (hm:sz m≤10):ag Tryz.prog 195 [eA u,eA v,fA m] (.bool (decide (fe u v m))):=by
 obtain ⟨B,hB⟩:∃B:Bool,B=decide (fe u v m):=⟨_,rfl⟩
 have hen:B=true↔(u≠⟨0,0⟩∧v≠⟨0,0⟩∧0<m∧if 0≤u.dot v then 2 / (m*m)-1≤0∨(2 / (m*m)-1)*(2 / (m*m)-1)*(u.dot u*v.dot v)≤u.dot v*u.dot v else 2 / (m*m)-1<0∧u.dot v*u.dot v≤(2 / (m*m)-1)*(2 / (m*m)-1)*(u.dot u*v.dot v)):=by
  rw [hB,decide_eq_true_iff,←FY (Rat.mul_nonneg (mo u) (mo v))]; exact Iff.rfl
 rw [←hB]
 clear hB
 have d0:∀p:PQ,p.dot p=0↔p=⟨0,0⟩:=fun p=>⟨fun h=>by
  have:=PQ.dot0 h
  exact PQ.ext this.1 this.2,fun h=>by rw [h]; unfold PQ.dot; grind⟩
 have du:=d0 u
 have dv:=d0 v
 have h1:=bT u u (by omega) (by omega)
 have s1:=PQ.sz_dot u u
 have h2:=bT v v (by omega) (by omega)
 have s2:=PQ.sz_dot v v
 have h3:=bT u v (by omega) (by omega)
 have s3:=PQ.sz_dot u v
 generalize u.dot u=uu at *
 generalize v.dot v=vv at *
 generalize u.dot v=d at *
 have g1:=aE uu
 have g2:=aE vv
 have g3:=aE m
 have y1:=eo (x:=uu)
 have y2:=eo (x:=vv)
 have y3:=bR (x:=m)
 have k2:=cG 2 1 (by omega) (by omega) (by omega)
 rw [show ((2:Int):Rat) / ((1:Int):Rat)=2 by grind] at k2
 have k1:=cG 1 1 (by omega) (by omega) (by omega)
 rw [show ((1:Int):Rat) / ((1:Int):Rat)=1 by grind] at k1
 have z2:sz (2:Rat)≤1:=Sy
 have z1:sz (1:Rat)≤1:=by rw [eH]; omega
 have h4:=aN m m (by omega) (by omega)
 have s4:=aJ m m
 have h5:=fun (h:0<m)=>mw 2 (m*m) (by omega) (by omega) (by have:=Rat.mul_pos h h; grind)
 have s5:=iS 2 (m*m)
 have h6:=eT (2 / (m*m)) 1 (by omega) (by omega)
 have s6:=sz_sub (2 / (m*m)) 1
 generalize 2 / (m*m)=q at *
 generalize q-1=c at *
 generalize m*m=mm at *
 have h7:=aN d d (by omega) (by omega)
 have s7:=aJ d d
 have h8:=aN c c (by omega) (by omega)
 have s8:=aJ c c
 have h9:=aN uu vv (by omega) (by omega)
 have s9:=aJ uu vv
 have h10:=aN (c*c) (uu*vv) (by omega) (by omega)
 have s10:=aJ (c*c) (uu*vv)
 have g4:=aE d
 have y4:=oY (x:=d)
 have g5:=aE c
 have y5:=bR (x:=c)
 have y5':=iy (x:=c)
 have h11:=bC (d*d) (c*c*(uu*vv)) (by omega) (by omega)
 have y11:=iX (x:=d*d) (y:=c*c*(uu*vv))
 have y11':=iu (x:=d*d) (y:=c*c*(uu*vv))
 generalize bJ (d*d) (c*c*(uu*vv))=cm at *
 generalize c*c*(uu*vv)=R at *
 generalize uu*vv=uv at *
 generalize c*c=cc at *
 generalize d*d=dd at *
 generalize aM uu=e1 at *
 generalize aM vv=e2 at *
 generalize aM m=e3 at *
 generalize aM d=e4 at *
 generalize aM c=e5 at *
 simp only [aP,bc] at *
 refine Pg Tryz.func195 rfl [.tmp 6] rfl (by simp -implicitDefEqProofs [go_sem]) ?_
 simp -implicitDefEqProofs [go_sem]
 refine aa h1 ?_
 simp -implicitDefEqProofs [go_sem]
 refine aa h2 ?_
 simp -implicitDefEqProofs [go_sem]
 refine ac g1 ?_
 by_cases a1:uu=0
 ·have hb:B=false:=Bool.eq_false_iff.2 fun hh=>(hen.1 hh).1 (du.1 a1)
  subst hb
  simp -implicitDefEqProofs [go_sem,y1.2 a1]
 ·have a1':¬e1=0:=fun h=>a1 (y1.1 h)
  simp -implicitDefEqProofs [go_sem,a1']
  refine ac g2 ?_
  by_cases a2:vv=0
  ·have hb:B=false:=Bool.eq_false_iff.2 fun hh=>(hen.1 hh).2.1 (dv.1 a2)
   subst hb
   simp -implicitDefEqProofs [go_sem,y2.2 a2]
  ·have a2':¬e2=0:=fun h=>a2 (y2.1 h)
   simp -implicitDefEqProofs [go_sem,a2']
   refine ac g3 ?_
   by_cases a3:m≤0
   ·have hb:B=false:=Bool.eq_false_iff.2 fun hh=>absurd (hen.1 hh).2.2.1 (by grind)
    subst hb
    simp -implicitDefEqProofs [go_sem,y3.2 a3]
   ·have a3':¬e3≤0:=fun h=>a3 (y3.1 h)
    have h5:=h5 (by grind)
    have hen':B=true↔(if 0≤d then c≤0∨R≤dd else c<0∧dd≤R):=⟨fun h=>(hen.1 h).2.2.2,fun h=>hen.2 ⟨fun e=>a1 (du.2 e),fun e=>a2 (dv.2 e),by grind,h⟩⟩
    clear hen
    simp -implicitDefEqProofs [go_sem,a3']
    refine aa k2 ?_
    simp -implicitDefEqProofs [go_sem]
    refine aa h4 ?_
    simp -implicitDefEqProofs [go_sem]
    refine aa h5 ?_
    simp -implicitDefEqProofs [go_sem]
    refine aa k1 ?_
    simp -implicitDefEqProofs [go_sem]
    refine aa h6 ?_
    simp -implicitDefEqProofs [go_sem]
    refine ac h3 ?_
    simp -implicitDefEqProofs [go_sem]
    refine ac h7 ?_
    simp -implicitDefEqProofs [go_sem]
    refine aa h8 ?_
    simp -implicitDefEqProofs [go_sem]
    refine aa h9 ?_
    simp -implicitDefEqProofs [go_sem]
    refine aa h10 ?_
    simp -implicitDefEqProofs [go_sem]
    refine ac g4 ?_
    by_cases a4:0≤d
    ·rw [if_pos a4] at hen'
     simp -implicitDefEqProofs [go_sem,y4.2 a4]
     refine ac g5 ?_
     by_cases a5:c≤0
     ·have hb:=hen'.2 (.inl a5)
      subst hb
      simp -implicitDefEqProofs [go_sem,y5.2 a5]
     ·have a5':¬e5≤0:=fun h=>a5 (y5.1 h)
      simp -implicitDefEqProofs [go_sem,a5']
      refine ac h11 ?_
      by_cases a6:R≤dd
      ·have hb:=hen'.2 (.inr a6)
       subst hb
       simp -implicitDefEqProofs [go_sem,y11.2 a6]
      ·have a6':¬0≤cm:=fun h=>a6 (y11.1 h)
       have hb:B=false:=Bool.eq_false_iff.2 fun hh=>(hen'.1 hh).elim a5 a6
       subst hb
       simp -implicitDefEqProofs [go_sem,a6']
    ·rw [if_neg a4] at hen'
     have a4':¬0≤e4:=fun h=>a4 (y4.1 h)
     simp -implicitDefEqProofs [go_sem,a4']
     refine ac g5 ?_
     by_cases a5:c<0
     ·simp -implicitDefEqProofs [go_sem,y5'.2 a5]
      refine ac h11 ?_
      by_cases a6:dd≤R
      ·have hb:=hen'.2 ⟨a5,a6⟩
       subst hb
       simp -implicitDefEqProofs [go_sem,y11'.2 a6]
      ·have a6':¬cm≤0:=fun h=>a6 (y11'.1 h)
       have hb:B=false:=Bool.eq_false_iff.2 fun hh=>a6 (hen'.1 hh).2
       subst hb
       simp -implicitDefEqProofs [go_sem,a6']
     ·have a5':¬e5<0:=fun h=>a5 (y5'.1 h)
      have hb:B=false:=Bool.eq_false_iff.2 fun hh=>a5 (hen'.1 hh).1
      subst hb
      simp -implicitDefEqProofs [go_sem,a5']
theorem oB (p:PQ) (l:List PQ) (left:Bool) (hl:l.length≤3) (hp:p.sz≤10) (hs:∀x∈l,x.sz≤1000000):ag Tryz.prog 197 [eA p,eL l,.bool left] (eL (p::(if left then l.reverse else l).map p.add)):=by
 refine ag.of_ca (oW _) (Cg Tryz.func197 rfl [.tmp 6] rfl ?_)
 obtain ⟨L,hL⟩:∃L,L=if left then l.reverse else l:=⟨_,rfl⟩
 rw [←hL]
 have hLl:L.length=l.length:=by rw [hL]; cases left<;>simp
 obtain ⟨O,hO⟩:∃O:Nat→List AV,O=fun i=>(p::(L.take i).map p.add).map eA:=⟨_,rfl⟩
 have hOr:∀i,roL (O i):=fun i=>by rw [hO]; exact cY _
 have hOl:∀i,i≤l.length→(O i).length=i+1:=fun i hi=>by rw [hO]; simp; omega
 have hO0:O 0=[.agg (eC p)]:=by rw [hO]; rfl
 have hOs:∀i (h:i<L.length),O (i+1)=O i++[.agg (eC (p.add L[i]))]:=fun i h=>by
  rw [hO]
  simp only [List.take_succ_eq_append_getElem h,List.map_append,List.map_cons,List.map_nil,List.cons_append,aP]
 have hOm:eL (p::L.map p.add) = .sl 6 false (O l.length):=by
  rw [hO]; unfold eL; simp only [←hLl,List.take_length]
 have hX:∀i (h:i<L.length),bU (l.map eA) ((if left then l.length-1-i else i:Nat):Int) = .agg (eC L[i]):=fun i h=>by
  cases left
  ·simp only [Bool.false_eq_true,if_false] at hL ⊢
   subst hL
   exact f_ h
  ·simp only [if_true] at hL ⊢
   subst hL
   rw [List.length_reverse] at h
   rw [f_ (by omega),List.getElem_reverse]
 have hLm:∀x,x∈L→x∈l:=fun x hx=>by
  rw [hL] at hx
  cases left<;>simpa using hx
 have hXs:∀i (h:i<L.length),L[i].sz≤1000000:=fun i h=>hs _ (hLm _ (List.getElem_mem h))
 have hadd:=fun (q:PQ) (hq:q.sz≤1000000)=>cT p q (by omega) (by omega)
 rw [hOm]
 clear hOm hL
 unfold eL
 simp only [aP] at hadd ⊢
 simp -implicitDefEqProofs [go_sem]
 refine ap 2 (α:={i:Nat // i≤l.length}) (fun i=>[(1,.sl 6 false (l.map eA)),(2,.bool left),(3,.ptr 0 0 0),(7,di 6 1 (O i.1)),(8,.int .i64 i.1)])
  (fun i=>(0,.live 6 [.agg (eC p)])::cR 6 1 (O i.1)) (fun i=>l.length-i.1) ⟨0,by omega⟩ [] (by simp) (fun _ _ _ _ h=>h) (by simp) (by simp -implicitDefEqProofs [go_sem,hO0]; try rfl) (by simp -implicitDefEqProofs [go_sem,hO0,bH]) fun ⟨i,hi⟩=>?_
 have hne:O i≠[]:=fun h=>by have:=hOl i hi; rw [h] at this; simp at this
 have hb:Go.Proofs.YtdnmfaljidjijaaGreat.hp 2 (cR 6 1 (O i)) 1 = .live 6 (O i):=by rw [aC hne]; simp [Go.Proofs.YtdnmfaljidjijaaGreat.hp,aH]
 have hl0:=hOl i hi
 have hr0:=hOr i
 by_cases a:(i:Int)<l.length
 ·have hi':i<L.length:=by omega
  have es:=wS i (by omega)
  have hg:=hX i hi'
  have kx:=hadd L[i] (hXs i hi')
  have hs':=hOs i hi'
  have hr1:=hOr (i+1)
  have hn1:O (i+1)≠[]:=by rw [hs']; simp
  rw [hs'] at hr1
  have u1:=(renL_ro (nm [(1,10)]) _ hr1).symm
  have u2:=cloL_ro (n:=2) _ hr1
  have hl1:(O (i+1)).length=(O i).length+1:=by rw [hs']; simp
  have lw1:IntKind.i64.wrap ((l.length:Int)-1)=(l.length:Int)-1:=bS (by omega)
  have lw2:IntKind.i64.wrap ((l.length:Int)-1-i)=((l.length-1-i:Nat):Int):=by rw [bS (by omega)]; omega
  have b1:l.length-1-i<l.length:=by omega
  have b2:i<l.length:=by omega
  generalize L[i]=x at *
  cases left
  ·simp only [Bool.false_eq_true,if_false] at hg
   simp -implicitDefEqProofs [go_sem,a,b2,hg]
   refine aa kx ?_
   simp -implicitDefEqProofs [go_sem]
   refine aI (.inl rfl) (by omega) (by omega) (by simp -implicitDefEqProofs [go_sem]) (by simp [hl0]<;>omega) (fun h=>hb) ?_
   simp -implicitDefEqProofs [go_sem,es]
   exact ae ⟨i+1,by omega⟩ (by simp only; omega) [(1,10)] (by simp) (by simp only [aC hn1]; simp [nm]) (by simp) (by simp only [aV hn1,hl1]; simp -implicitDefEqProofs [go_sem,es]) (by simp only [aC hn1,hs']; simp -implicitDefEqProofs [go_sem,←u1,u2])
  ·simp only [if_true] at hg
   simp -implicitDefEqProofs [go_sem,a,b1,hg,lw1,lw2]
   refine aa kx ?_
   simp -implicitDefEqProofs [go_sem]
   refine aI (.inl rfl) (by omega) (by omega) (by simp -implicitDefEqProofs [go_sem]) (by simp [hl0]<;>omega) (fun h=>hb) ?_
   simp -implicitDefEqProofs [go_sem,es]
   exact ae ⟨i+1,by omega⟩ (by simp only; omega) [(1,10)] (by simp) (by simp only [aC hn1]; simp [nm]) (by simp) (by simp only [aV hn1,hl1]; simp -implicitDefEqProofs [go_sem,es]) (by simp only [aC hn1,hs']; simp -implicitDefEqProofs [go_sem,←u1,u2])
 ·have hil:i=l.length:=by omega
  subst hil
  simp -implicitDefEqProofs [go_sem,a]
  exact fS hr0 (fun _=>hb)
@[go_sem] theorem SF (a b c d e:AV):gN [a,b,c,d,e]=aH (aH (aH (aH (aH (fun _ => .any) 0 a) 1 b) 2 c) 3 d) 4 e:=by
 funext k; unfold gN aH
 match k with
 | 0=>rfl
 | 1=>rfl
 | 2=>rfl
 | 3=>rfl
 | 4=>rfl
 | k+5=>simp
def tr (p:PQ) (o:Option (List PQ)) (left:Bool):List PQ×Int:=match o with
 | none=>([],24)
 | some l=>(p::(if left then l.reverse else l).map p.add,0)
theorem o9 (u:PQ) (left:Bool):(au u.rot left).dot (au u.rot left)=u.dot u:=by
 rw [F4]; unfold PQ.rot PQ.dot; simp only; grind
theorem yX (p u v:PQ) (s:SR) (left:Bool) (hp:p.sz≤1) (hu:u.sz≤1) (hv:v.sz≤1) (hu0:u≠⟨0,0⟩) (hv0:v≠⟨0,0⟩) (hs:s.Sml) :
 ag Tryz.prog 196 [eA p,eA u,eA v,uh s,.bool left] (mv (tr p (iL u v s.h s.tol.val left 4097 0) left)):=by
 have hh:=hs.h
 have zt:=hs.tol.sz
 have k0:=ji s hs
 have k1:=cG 1 2 (by omega) (by omega) (by omega)
 rw [←dc] at k1
 have zhf:=fv
 obtain ⟨ou,hou⟩:∃ou,ou=au u.rot left:=⟨_,rfl⟩
 obtain ⟨ov,hov⟩:∃ov,ov=au v.rot left:=⟨_,rfl⟩
 have zou:ou.sz≤1:=by rw [hou,cE]; exact Nat.le_trans (PQ.sz_rot _) hu
 have zov:ov.sz≤1:=by rw [hov,cE]; exact Nat.le_trans (PQ.sz_rot _) hv
 have duo:ou.dot ou=u.dot u:=by rw [hou,o9]
 have dvo:ov.dot ov=v.dot v:=by rw [hov,o9]
 have l1:=nF u
 have l2:=jG u.rot left
 have l3:=nF v
 have l4:=jG v.rot left
 rw [←hou] at l2
 rw [←hov] at l4
 have hAt:=fun (k:Nat) (hk:k≤4096)=>sF u s.h k hk (by omega) hu0 (by omega)
 have hBt:=fun (k:Nat) (hk:k≤4096)=>sF v s.h k hk (by omega) hv0 (by omega)
 have hT:=fun (k:Nat)=>yi u v s.h s.tol.val left k
 simp only [←hou,←hov] at hT
 have hsd:=fun (a:PQ)=>jG a left
 have hlong:=fun (a o:PQ) (ha:a.sz≤1000000) (ho:o.sz≤1000)=>yU a o s.h s.tol.val ha ho (by omega) (by omega)
 have hmu:=fun (d:Rat) (k:Nat) (hk:k≤4096) (hd0:d≠0) (hd:sz d≤2000)=>sK d u s.h k hk hd0 hd (by omega) (by omega)
 have hmv:=fun (d:Rat) (k:Nat) (hk:k≤4096) (hd0:d≠0) (hd:sz d≤2000)=>sK d v s.h k hk hd0 hd (by omega) (by omega)
 have hround:=fun (a t b:PQ) (ha:a.sz≤1000000) (ht:t.sz≤1000000) (hb:b.sz≤1000000)=>oB p [a,t,b] left (by simp) (by omega) (by simp [ha,ht,hb])
 have hfs:=fun (S:PQ) (r:Rat) (k:Nat) (hk:k≤4096) (hS:S.sz≤1000) (hF:mU S ou ov s.h k=some r)=>xj hF hk hS (by omega) (by omega) (by omega)
 have hfQ:∀(S:PQ) (k:Nat),mU S ou ov s.h k=if 0<S.dot ou then (if 0<S.dot ov then some (if cV (s.h*s.h*v.dot v / (S.dot ov*S.dot ov)) k<cV (s.h*s.h*u.dot u / (S.dot ou*S.dot ou)) k then cV (s.h*s.h*v.dot v / (S.dot ov*S.dot ov)) k else cV (s.h*s.h*u.dot u / (S.dot ou*S.dot ou)) k) else some (cV (s.h*s.h*u.dot u / (S.dot ou*S.dot ou)) k)) else if 0<S.dot ov then some (cV (s.h*s.h*v.dot v / (S.dot ov*S.dot ov)) k) else none:=fun S k=>by
  unfold mU; simp only [duo,dvo]
 have hlz:=fun (S:PQ) (k:Nat) (hk:k≤4096) (hS:S.sz≤1000)=>rB (s:=S) (o:=ou) (h:=s.h) hk hS (by omega) (by omega)
 have hlz2:=fun (S:PQ) (k:Nat) (hk:k≤4096) (hS:S.sz≤1000)=>rB (s:=S) (o:=ov) (h:=s.h) hk hS (by omega) (by omega)
 unfold i4 at hlz hlz2
 rw [duo] at hlz
 rw [dvo] at hlz2
 obtain ⟨TK,hTK⟩:∃T,T=iL u v s.h s.tol.val left 4097 0:=⟨_,rfl⟩
 have hstep:=fun (k:Nat) (hk:k≤4096)=>wz (u:=u) (v:=v) (h:=s.h) (tol:=s.tol.val) (left:=left) hk
 obtain ⟨FK,hFK⟩:∃F:Nat→Option (List PQ),F=fun k=>iL u v s.h s.tol.val left (4097-k) k:=⟨_,rfl⟩
 have hFK0:TK=FK 0:=by rw [hTK,hFK]
 have hFKe:FK 4097=none:=by rw [hFK]; rfl
 have hFKs:∀k,k≤4096→FK k=match pn u v s.h s.tol.val left k with
  | some l=>some l
  | none=>FK (k+1):=fun k hk=>by rw [hFK]; exact hstep k hk
 rw [←hTK]
 clear hTK hFK hstep
 refine ag.of_ca (tK _) (Cg Tryz.func196 rfl [.cell 10 194] rfl ?_)
 have htp:∀k,pn u v s.h s.tol.val left k=pn u v s.h s.tol.val left k:=fun _=>rfl
 obtain ⟨TQ,hTQ⟩:∃F:Nat→Option (List PQ),F=fun k=>pn u v s.h s.tol.val left k:=⟨_,rfl⟩
 have hTQe:∀k,pn u v s.h s.tol.val left k=TQ k:=fun k=>by rw [hTQ]
 simp only [hTQe] at hT hFKs
 clear htp hTQ hTQe
 unfold uh at *
 have q1:(c8 s.width.val s.miter.val s.tol.val s.cap s.join).length=11:=rfl
 have q2:(c8 s.width.val s.miter.val s.tol.val s.cap s.join).drop 8=fC s.tol.val:=rfl
 have q3:(c8 s.width.val s.miter.val s.tol.val s.cap s.join).take 11=c8 s.width.val s.miter.val s.tol.val s.cap s.join:=rfl
 have q4:(c8 s.width.val s.miter.val s.tol.val s.cap s.join).drop 11=[]:=rfl
 have q5:=gw s.width.val s.miter.val s.tol.val s.cap s.join
 generalize c8 s.width.val s.miter.val s.tol.val s.cap s.join=S at *
 have q6:=renL_ro (nm []) _ q5
 have q7:=cloL_ro (n:=16) _ q5
 generalize s.h=h at *
 generalize s.tol.val=tol at *
 simp only [aP,bc] at *
 simp -implicitDefEqProofs [go_sem,q1,q3,q4]
 refine ah _ k0 (by simp [go_sem,q5]) ?_
 simp -implicitDefEqProofs [go_sem,q1,q3,q4]
 refine aa l1 ?_
 simp -implicitDefEqProofs [go_sem,q1,q3,q4]
 refine aa l2 ?_
 simp -implicitDefEqProofs [go_sem,q1,q3,q4]
 refine aa l3 ?_
 simp -implicitDefEqProofs [go_sem,q1,q3,q4]
 refine aa l4 ?_
 simp -implicitDefEqProofs [go_sem,q1,q3,q4]
 refine ap 16 (α:={k:Nat // k≤4097∧TK=FK k}) (fun k=>[(4,.bool left),(5,.ptr 0 0 0),(6,.ptr 1 0 0),(7,.ptr 2 0 0),(8,.ptr 3 0 0),(10,.ptr 4 0 0),(11,.ptr 5 0 0),(12,.ptr 14 0 0),(13,.ptr 15 0 0),(14,.int .i64 k.1)])
  (fun k=>[(0,.live 6 [.agg (eC p)]),(1,.live 6 [.agg (eC u)]),(2,.live 6 [.agg (eC v)]),(3,.live 11 [.agg S]),(4,.live 2 [.agg [.sl 0 true [],.int .i64 0]]),(5,.live 3 [.agg (fC h)]),(14,.live 6 [.agg (eC ou)]),(15,.live 6 [.agg (eC ov)])])
  (fun k=>4097-k.1) ⟨0,by omega,hFK0⟩ [] (by simp) (fun _ _ _ _ h=>h) (by simp) (by simp -implicitDefEqProofs [go_sem]) (by simp -implicitDefEqProofs [go_sem,q6,q7]) fun ⟨k,hk,hfk⟩=>?_
 by_cases a:(k:Int)≤4096
 ·have hk':k≤4096:=by omega
  have ek:=wS k (by omega)
  have hTk:=hT k
  have hst:=hFKs k hk'
  have gA:=hAt k hk'
  have gB:=hBt k hk'
  have za:=lc (v:=u) (h:=h) hk'
  have zb:=lc (v:=v) (h:=h) hk'
  have tA:=hsd (cj u h k)
  have tB:=hsd (cj v h k)
  have zA:(au (cj u h k) left).sz≤268:=by rw [cE]; omega
  have zB:(au (cj v h k) left).sz≤268:=by rw [cE]; omega
  have again:TQ k=none→TK=FK (k+1):=fun e=>by rw [hfk,hst,e]
  have done:∀l,TQ k=some l→TK=some l:=fun l e=>by rw [hfk,hst,e]
  generalize cj u h k=oa at *
  generalize cj v h k=ob at *
  generalize au oa left=A at *
  generalize au ob left=B at *
  have d1:=bT A A (by omega) (by omega)
  have d2:=aE (A.dot A)
  have d3:=eo (x:=A.dot A)
  have d4:=bT B B (by omega) (by omega)
  have d5:=aE (B.dot B)
  have d6:=eo (x:=B.dot B)
  rw [dot0] at d3 d6
  generalize aM (A.dot A)=sA at *
  generalize aM (B.dot B)=sB at *
  simp only [aP,bc] at *
  simp -implicitDefEqProofs [go_sem,a]
  refine aa gA ?_
  simp -implicitDefEqProofs [go_sem]
  refine aa tA ?_
  simp -implicitDefEqProofs [go_sem]
  refine aa gB ?_
  simp -implicitDefEqProofs [go_sem]
  refine aa tB ?_
  simp -implicitDefEqProofs [go_sem]
  refine ac d1 ?_
  simp -implicitDefEqProofs [go_sem]
  refine ac d2 ?_
  by_cases a1:A=⟨0,0⟩
  ·have hn:=hTk.trans (if_pos (.inl a1))
   simp -implicitDefEqProofs [go_sem,d3.2 a1,ek]
   exact ae ⟨k+1,by omega,again hn⟩ (by simp only; omega) [] (by simp) (fun _ _ _ _ h=>h) (by simp) (by simp -implicitDefEqProofs [go_sem]) (by simp -implicitDefEqProofs [go_sem,q6,q7])
  ·have a1':¬sA=0:=fun h=>a1 (d3.1 h)
   simp -implicitDefEqProofs [go_sem,a1']
   refine ac d4 ?_
   simp -implicitDefEqProofs [go_sem]
   refine ac d5 ?_
   by_cases a2:B=⟨0,0⟩
   ·have hn:=hTk.trans (if_pos (.inr a2))
    simp -implicitDefEqProofs [go_sem,d6.2 a2,ek]
    exact ae ⟨k+1,by omega,again hn⟩ (by simp only; omega) [] (by simp) (fun _ _ _ _ h=>h) (by simp) (by simp -implicitDefEqProofs [go_sem]) (by simp -implicitDefEqProofs [go_sem,q6,q7])
   ·have a2':¬sB=0:=fun h=>a2 (d6.1 h)
    have hT2:=hTk.trans (if_neg (fun h=>h.elim a1 a2))
    have gS:=cT A B (by omega) (by omega)
    have zS:=PQ.sz_add A B
    generalize A.add B=SM at *
    have hF:=hfQ SM k
    have hFz:=hfs SM
    have w1:=bT SM ou (by omega) (by omega)
    have w2:=bT SM ov (by omega) (by omega)
    have w3:=PQ.sz_dot SM ou
    have w4:=PQ.sz_dot SM ov
    have r1:=hlz SM k hk' (by omega)
    have r2:=hlz2 SM k hk' (by omega)
    generalize SM.dot ou=X at *
    generalize SM.dot ov=Y at *
    have m1:=fun h0=>hmu X k hk' h0 (by omega)
    have m2:=fun h0=>hmv Y k hk' h0 (by omega)
    generalize cV (h*h*u.dot u / (X*X)) k=R1 at *
    generalize cV (h*h*v.dot v / (Y*Y)) k=R2 at *
    have m3:=EY R1 R2 (by omega) (by omega)
    have x1:=aE X
    have x2:=aE Y
    have x3:=bQ (x:=X)
    have x4:=bQ (x:=Y)
    generalize aM X=sX at *
    generalize aM Y=sY at *
    simp only [aP,bc] at *
    simp -implicitDefEqProofs [go_sem,a2']
    refine ac gS ?_
    simp -implicitDefEqProofs [go_sem]
    refine aa w1 ?_
    simp -implicitDefEqProofs [go_sem]
    refine aa w2 ?_
    simp -implicitDefEqProofs [go_sem]
    refine ac x1 ?_
    by_cases c1:0<X
    ·have x1n:X≠0:=fun e=>by rw [e] at c1; exact absurd c1 (by decide)
     simp -implicitDefEqProofs [go_sem,x3.2 c1]
     refine ac x2 ?_
     by_cases c2:0<Y
     ·have x2n:Y≠0:=fun e=>by rw [e] at c2; exact absurd c2 (by decide)
      rw [if_pos c1,if_pos c2] at hF
      simp -implicitDefEqProofs [go_sem,x4.2 c2]
      refine aa (m1 x1n) ?_
      simp -implicitDefEqProofs [go_sem]
      refine aa (m2 x2n) ?_
      simp -implicitDefEqProofs [go_sem]
      refine aa m3 ?_
      simp -implicitDefEqProofs [go_sem]
      rw [hF] at hT2
      simp only at hT2
      have zr:=hFz (if R2<R1 then R2 else R1) k hk' (by omega) hF
      generalize (if R2<R1 then R2 else R1)=r at *
      have gC:=bC r bB (by omega) (by omega)
      have zC:=dJ (x:=r) (y:=bB)
      generalize bJ r bB=cm at *
      simp only [bc] at gC
      refine aa k1 ?_
      simp -implicitDefEqProofs [go_sem]
      refine aa gC ?_
      by_cases a3:r<bB
      ·have hn:=hT2.trans (if_pos a3)
       simp -implicitDefEqProofs [go_sem,zC.2 a3,ek]
       exact ae ⟨k+1,by omega,again hn⟩ (by simp only; omega) [] (by simp) (fun _ _ _ _ h=>h) (by simp) (by simp -implicitDefEqProofs [go_sem]) (by simp -implicitDefEqProofs [go_sem,q6,q7])
      ·have hT3:=hT2.trans (if_neg a3)
       have a3':¬cm<0:=fun hh=>a3 (zC.1 hh)
       have gT:=iE SM r (by omega) (by omega)
       have zT:=PQ.sz_scale SM r
       generalize SM.scale r=T at *
       have n1:=hlong A ou (by omega) (by omega)
       have n2:=hlong B ov (by omega) (by omega)
       have n3:=hlong T ou (by omega) (by omega)
       have n4:=hlong T ov (by omega) (by omega)
       have hr:=hround A T B (by omega) (by omega) (by omega)
       have done:=fun h=>done [A,T,B] (hT3.trans (if_pos h))
       have no:=fun h=>again (hT3.trans (if_neg h))
       generalize hRL:p::List.map p.add (if left then [A,T,B].reverse else [A,T,B])=RL at hr
       unfold eL at hr
       simp only [List.map_cons,List.map_nil,aP,bc] at gT n1 n2 n3 n4 hr
       simp -implicitDefEqProofs [go_sem,a3']
       refine ac gT ?_
       simp -implicitDefEqProofs [go_sem,q1,q2]
       refine ac n1 ?_
       by_cases b1:iq (A.dot ou) (h-tol) (ou.dot ou)
       ·simp -implicitDefEqProofs [go_sem,b1,q1,q2]
        refine ac n2 ?_
        by_cases b2:iq (B.dot ov) (h-tol) (ov.dot ov)
        ·simp -implicitDefEqProofs [go_sem,b2,q1,q2]
         refine ac n3 ?_
         by_cases b3:iq (T.dot ou) (h-tol) (ou.dot ou)
         ·simp -implicitDefEqProofs [go_sem,b3,q1,q2]
          refine ac n4 ?_
          by_cases b4:iq (T.dot ov) (h-tol) (ov.dot ov)
          ·simp -implicitDefEqProofs [go_sem,b4,q1,q2]
           have hd:=done ⟨b1,b3,b2,b4⟩
           have hg:mv (tr p TK left) = .agg [.sl 6 false (RL.map eA),.int .i64 0]:=by rw [hd,←hRL]; rfl
           rw [hg]
           refine cq [61] _ hr (by simp -implicitDefEqProofs [go_sem]) (by simp -implicitDefEqProofs [go_sem,bH]) (by simp -implicitDefEqProofs [go_sem]) (by simp -implicitDefEqProofs [go_sem]) ?_
           simp -implicitDefEqProofs [go_sem,aL,bH]
           exact Wk.refl _
          ·have hn:=no (fun h=>b4 h.2.2.2)
           simp -implicitDefEqProofs [go_sem,b4,ek]
           exact ae ⟨k+1,by omega,hn⟩ (by simp only; omega) [] (by simp) (fun _ _ _ _ h=>h) (by simp) (by simp -implicitDefEqProofs [go_sem]) (by simp -implicitDefEqProofs [go_sem,q6,q7])
         ·have hn:=no (fun h=>b3 h.2.1)
          simp -implicitDefEqProofs [go_sem,b3,ek]
          exact ae ⟨k+1,by omega,hn⟩ (by simp only; omega) [] (by simp) (fun _ _ _ _ h=>h) (by simp) (by simp -implicitDefEqProofs [go_sem]) (by simp -implicitDefEqProofs [go_sem,q6,q7])
        ·have hn:=no (fun h=>b2 h.2.2.1)
         simp -implicitDefEqProofs [go_sem,b2,ek]
         exact ae ⟨k+1,by omega,hn⟩ (by simp only; omega) [] (by simp) (fun _ _ _ _ h=>h) (by simp) (by simp -implicitDefEqProofs [go_sem]) (by simp -implicitDefEqProofs [go_sem,q6,q7])
       ·have hn:=no (fun h=>b1 h.1)
        simp -implicitDefEqProofs [go_sem,b1,ek]
        exact ae ⟨k+1,by omega,hn⟩ (by simp only; omega) [] (by simp) (fun _ _ _ _ h=>h) (by simp) (by simp -implicitDefEqProofs [go_sem]) (by simp -implicitDefEqProofs [go_sem,q6,q7])
     ·have c2':¬0<sY:=fun h=>c2 (x4.1 h)
      rw [if_pos c1,if_neg c2] at hF
      simp -implicitDefEqProofs [go_sem,c2']
      refine ac x1 ?_
      simp -implicitDefEqProofs [go_sem,x3.2 c1]
      refine ac (m1 x1n) ?_
      simp -implicitDefEqProofs [go_sem]
      rw [hF] at hT2
      simp only at hT2
      have zr:=hFz R1 k hk' (by omega) hF
      generalize R1=r at *
      have gC:=bC r bB (by omega) (by omega)
      have zC:=dJ (x:=r) (y:=bB)
      generalize bJ r bB=cm at *
      simp only [bc] at gC
      refine aa k1 ?_
      simp -implicitDefEqProofs [go_sem]
      refine aa gC ?_
      by_cases a3:r<bB
      ·have hn:=hT2.trans (if_pos a3)
       simp -implicitDefEqProofs [go_sem,zC.2 a3,ek]
       exact ae ⟨k+1,by omega,again hn⟩ (by simp only; omega) [] (by simp) (fun _ _ _ _ h=>h) (by simp) (by simp -implicitDefEqProofs [go_sem]) (by simp -implicitDefEqProofs [go_sem,q6,q7])
      ·have hT3:=hT2.trans (if_neg a3)
       have a3':¬cm<0:=fun hh=>a3 (zC.1 hh)
       have gT:=iE SM r (by omega) (by omega)
       have zT:=PQ.sz_scale SM r
       generalize SM.scale r=T at *
       have n1:=hlong A ou (by omega) (by omega)
       have n2:=hlong B ov (by omega) (by omega)
       have n3:=hlong T ou (by omega) (by omega)
       have n4:=hlong T ov (by omega) (by omega)
       have hr:=hround A T B (by omega) (by omega) (by omega)
       have done:=fun h=>done [A,T,B] (hT3.trans (if_pos h))
       have no:=fun h=>again (hT3.trans (if_neg h))
       generalize hRL:p::List.map p.add (if left then [A,T,B].reverse else [A,T,B])=RL at hr
       unfold eL at hr
       simp only [List.map_cons,List.map_nil,aP,bc] at gT n1 n2 n3 n4 hr
       simp -implicitDefEqProofs [go_sem,a3']
       refine ac gT ?_
       simp -implicitDefEqProofs [go_sem,q1,q2]
       refine ac n1 ?_
       by_cases b1:iq (A.dot ou) (h-tol) (ou.dot ou)
       ·simp -implicitDefEqProofs [go_sem,b1,q1,q2]
        refine ac n2 ?_
        by_cases b2:iq (B.dot ov) (h-tol) (ov.dot ov)
        ·simp -implicitDefEqProofs [go_sem,b2,q1,q2]
         refine ac n3 ?_
         by_cases b3:iq (T.dot ou) (h-tol) (ou.dot ou)
         ·simp -implicitDefEqProofs [go_sem,b3,q1,q2]
          refine ac n4 ?_
          by_cases b4:iq (T.dot ov) (h-tol) (ov.dot ov)
          ·simp -implicitDefEqProofs [go_sem,b4,q1,q2]
           have hd:=done ⟨b1,b3,b2,b4⟩
           have hg:mv (tr p TK left) = .agg [.sl 6 false (RL.map eA),.int .i64 0]:=by rw [hd,←hRL]; rfl
           rw [hg]
           refine cq [49] _ hr (by simp -implicitDefEqProofs [go_sem]) (by simp -implicitDefEqProofs [go_sem,bH]) (by simp -implicitDefEqProofs [go_sem]) (by simp -implicitDefEqProofs [go_sem]) ?_
           simp -implicitDefEqProofs [go_sem,aL,bH]
           exact Wk.refl _
          ·have hn:=no (fun h=>b4 h.2.2.2)
           simp -implicitDefEqProofs [go_sem,b4,ek]
           exact ae ⟨k+1,by omega,hn⟩ (by simp only; omega) [] (by simp) (fun _ _ _ _ h=>h) (by simp) (by simp -implicitDefEqProofs [go_sem]) (by simp -implicitDefEqProofs [go_sem,q6,q7])
         ·have hn:=no (fun h=>b3 h.2.1)
          simp -implicitDefEqProofs [go_sem,b3,ek]
          exact ae ⟨k+1,by omega,hn⟩ (by simp only; omega) [] (by simp) (fun _ _ _ _ h=>h) (by simp) (by simp -implicitDefEqProofs [go_sem]) (by simp -implicitDefEqProofs [go_sem,q6,q7])
        ·have hn:=no (fun h=>b2 h.2.2.1)
         simp -implicitDefEqProofs [go_sem,b2,ek]
         exact ae ⟨k+1,by omega,hn⟩ (by simp only; omega) [] (by simp) (fun _ _ _ _ h=>h) (by simp) (by simp -implicitDefEqProofs [go_sem]) (by simp -implicitDefEqProofs [go_sem,q6,q7])
       ·have hn:=no (fun h=>b1 h.1)
        simp -implicitDefEqProofs [go_sem,b1,ek]
        exact ae ⟨k+1,by omega,hn⟩ (by simp only; omega) [] (by simp) (fun _ _ _ _ h=>h) (by simp) (by simp -implicitDefEqProofs [go_sem]) (by simp -implicitDefEqProofs [go_sem,q6,q7])
    ·have c1':¬0<sX:=fun h=>c1 (x3.1 h)
     simp -implicitDefEqProofs [go_sem,c1']
     refine ac x1 ?_
     simp -implicitDefEqProofs [go_sem,c1']
     refine ac x2 ?_
     by_cases c2:0<Y
     ·have x2n:Y≠0:=fun e=>by rw [e] at c2; exact absurd c2 (by decide)
      rw [if_neg c1,if_pos c2] at hF
      simp -implicitDefEqProofs [go_sem,x4.2 c2]
      refine ac (m2 x2n) ?_
      simp -implicitDefEqProofs [go_sem]
      rw [hF] at hT2
      simp only at hT2
      have zr:=hFz R2 k hk' (by omega) hF
      generalize R2=r at *
      have gC:=bC r bB (by omega) (by omega)
      have zC:=dJ (x:=r) (y:=bB)
      generalize bJ r bB=cm at *
      simp only [bc] at gC
      refine aa k1 ?_
      simp -implicitDefEqProofs [go_sem]
      refine aa gC ?_
      by_cases a3:r<bB
      ·have hn:=hT2.trans (if_pos a3)
       simp -implicitDefEqProofs [go_sem,zC.2 a3,ek]
       exact ae ⟨k+1,by omega,again hn⟩ (by simp only; omega) [] (by simp) (fun _ _ _ _ h=>h) (by simp) (by simp -implicitDefEqProofs [go_sem]) (by simp -implicitDefEqProofs [go_sem,q6,q7])
      ·have hT3:=hT2.trans (if_neg a3)
       have a3':¬cm<0:=fun hh=>a3 (zC.1 hh)
       have gT:=iE SM r (by omega) (by omega)
       have zT:=PQ.sz_scale SM r
       generalize SM.scale r=T at *
       have n1:=hlong A ou (by omega) (by omega)
       have n2:=hlong B ov (by omega) (by omega)
       have n3:=hlong T ou (by omega) (by omega)
       have n4:=hlong T ov (by omega) (by omega)
       have hr:=hround A T B (by omega) (by omega) (by omega)
       have done:=fun h=>done [A,T,B] (hT3.trans (if_pos h))
       have no:=fun h=>again (hT3.trans (if_neg h))
       generalize hRL:p::List.map p.add (if left then [A,T,B].reverse else [A,T,B])=RL at hr
       unfold eL at hr
       simp only [List.map_cons,List.map_nil,aP,bc] at gT n1 n2 n3 n4 hr
       simp -implicitDefEqProofs [go_sem,a3']
       refine ac gT ?_
       simp -implicitDefEqProofs [go_sem,q1,q2]
       refine ac n1 ?_
       by_cases b1:iq (A.dot ou) (h-tol) (ou.dot ou)
       ·simp -implicitDefEqProofs [go_sem,b1,q1,q2]
        refine ac n2 ?_
        by_cases b2:iq (B.dot ov) (h-tol) (ov.dot ov)
        ·simp -implicitDefEqProofs [go_sem,b2,q1,q2]
         refine ac n3 ?_
         by_cases b3:iq (T.dot ou) (h-tol) (ou.dot ou)
         ·simp -implicitDefEqProofs [go_sem,b3,q1,q2]
          refine ac n4 ?_
          by_cases b4:iq (T.dot ov) (h-tol) (ov.dot ov)
          ·simp -implicitDefEqProofs [go_sem,b4,q1,q2]
           have hd:=done ⟨b1,b3,b2,b4⟩
           have hg:mv (tr p TK left) = .agg [.sl 6 false (RL.map eA),.int .i64 0]:=by rw [hd,←hRL]; rfl
           rw [hg]
           refine cq [49] _ hr (by simp -implicitDefEqProofs [go_sem]) (by simp -implicitDefEqProofs [go_sem,bH]) (by simp -implicitDefEqProofs [go_sem]) (by simp -implicitDefEqProofs [go_sem]) ?_
           simp -implicitDefEqProofs [go_sem,aL,bH]
           exact Wk.refl _
          ·have hn:=no (fun h=>b4 h.2.2.2)
           simp -implicitDefEqProofs [go_sem,b4,ek]
           exact ae ⟨k+1,by omega,hn⟩ (by simp only; omega) [] (by simp) (fun _ _ _ _ h=>h) (by simp) (by simp -implicitDefEqProofs [go_sem]) (by simp -implicitDefEqProofs [go_sem,q6,q7])
         ·have hn:=no (fun h=>b3 h.2.1)
          simp -implicitDefEqProofs [go_sem,b3,ek]
          exact ae ⟨k+1,by omega,hn⟩ (by simp only; omega) [] (by simp) (fun _ _ _ _ h=>h) (by simp) (by simp -implicitDefEqProofs [go_sem]) (by simp -implicitDefEqProofs [go_sem,q6,q7])
        ·have hn:=no (fun h=>b2 h.2.2.1)
         simp -implicitDefEqProofs [go_sem,b2,ek]
         exact ae ⟨k+1,by omega,hn⟩ (by simp only; omega) [] (by simp) (fun _ _ _ _ h=>h) (by simp) (by simp -implicitDefEqProofs [go_sem]) (by simp -implicitDefEqProofs [go_sem,q6,q7])
       ·have hn:=no (fun h=>b1 h.1)
        simp -implicitDefEqProofs [go_sem,b1,ek]
        exact ae ⟨k+1,by omega,hn⟩ (by simp only; omega) [] (by simp) (fun _ _ _ _ h=>h) (by simp) (by simp -implicitDefEqProofs [go_sem]) (by simp -implicitDefEqProofs [go_sem,q6,q7])
     ·have c2':¬0<sY:=fun h=>c2 (x4.1 h)
      rw [if_neg c1,if_neg c2] at hF
      rw [hF] at hT2
      have hn:TQ k=none:=hT2
      simp -implicitDefEqProofs [go_sem,c2',ek]
      exact ae ⟨k+1,by omega,again hn⟩ (by simp only; omega) [] (by simp) (fun _ _ _ _ h=>h) (by simp) (by simp -implicitDefEqProofs [go_sem]) (by simp -implicitDefEqProofs [go_sem,q6,q7])
 ·have hk':k=4097:=by omega
  subst hk'
  have hg:mv (tr p TK left)=mv ([],24):=by rw [hfk,hFKe]; rfl
  rw [hg]
  simp -implicitDefEqProofs [go_sem,a,aL]
  exact xh 24
theorem yZ (p u v:PQ) (s:SR) (hp:p.sz≤1) (hu:u.sz≤1) (hv:v.sz≤1) (hs:s.Sml) :
 ag Tryz.prog 114 [eA p,eA u,eA v,uh s] (mv (dl p u v s)):=by
 have hh:=hs.h
 have zt:=hs.tol.sz
 have zm:=hs.miter.sz
 have d1:=bT u u (by omega) (by omega)
 have d2:=aE (u.dot u)
 have d3:=eo (x:=u.dot u)
 have d4:=bT v v (by omega) (by omega)
 have d5:=aE (v.dot v)
 have d6:=eo (x:=v.dot v)
 rw [dot0] at d3 d6
 have w1:=aE s.width.val
 have w2:=aE s.tol.val
 have y1:=bR (x:=s.width.val)
 have y2:=bR (x:=s.tol.val)
 have k1:=cG 1 1 (by omega) (by omega) (by omega)
 rw [show ((1:Int):Rat) / ((1:Int):Rat)=1 by grind] at k1
 have k64:=cG 64 1 (by omega) (by omega) (by omega)
 have z64:=gD (p:=64) (q:=1) (by omega) (by omega) (by omega)
 rw [show ((64:Int):Rat) / ((1:Int):Rat)=64 by grind] at k64 z64
 have z1:=eH
 have m1:=bC s.miter.val 1 (by omega) (by omega)
 have m64:=bC s.miter.val 64 (by omega) (by omega)
 have y3:=dJ (x:=s.miter.val) (y:=1)
 have y4:=iZ (x:=s.miter.val) (y:=64)
 have kh:=ji s hs
 have kr:=lG p s.h s.tol.val (by omega) (by omega) (by omega)
 have kx:=yV u v (by omega) (by omega)
 have kg:=aE (u.cross v)
 have y5:=eo (x:=u.cross v)
 have y6:=iy (x:=u.cross v)
 have ks:=y_ u v s.miter.val (by omega) (by omega) (by omega)
 have km:=fun (hu0:u≠⟨0,0⟩) (hv0:v≠⟨0,0⟩)=>yX p u v s (decide (u.cross v<0)) hp hu hv hu0 hv0 hs
 have kf1:=fun (h0:0<s.h) (ht:0<s.tol.val) (hu0:u≠⟨0,0⟩)=>mr u s.h s.tol.val (by omega) hu0 (by omega) h0 (by omega) ht
 have kf2:=fun (h0:0<s.h) (ht:0<s.tol.val) (hv0:v≠⟨0,0⟩)=>mr v s.h s.tol.val (by omega) hv0 (by omega) h0 (by omega) ht
 have hfs1:=fun n k (hf:dt u s.h s.tol.val=some (n,k))=>fY hf (by omega) (by omega)
 have hfs2:=fun n k (hf:dt v s.h s.tol.val=some (n,k))=>fY hf (by omega) (by omega)
 have hmay:uq s↔0<s.width.val∧0<s.tol.val∧0≤s.join∧s.join≤2∧(s.join=0→1≤s.miter.val∧s.miter.val≤64):=Iff.rfl
 have hHpos:0<s.width.val→0<s.h:=fun h=>Rat.mul_pos h gc
 refine ag.of_ca (tK _) (Cg Tryz.func114 rfl [.cell 8 194] rfl ?_)
 obtain ⟨RES,hRES⟩:∃R,R=mv (dl p u v s):=⟨_,rfl⟩
 rw [←hRES]
 unfold dl qb at hRES
 obtain ⟨left,hleft⟩:∃left,left=decide (u.cross v<0):=⟨_,rfl⟩
 have hLi:∀l:List PQ,(if u.cross v<0 then l.reverse else l)=if left then l.reverse else l:=fun l=>by rw [hleft]; by_cases hc:u.cross v<0<;>simp [hc]
 simp only [hLi] at hRES
 rw [←hleft] at km hRES
 have hgl:(aM (u.cross v)<0)=(left=true):=by rw [hleft,decide_eq_true_iff,y6]
 have hround:=fun (a b:PQ) (ha:a.sz≤1000000) (hb:b.sz≤1000000)=>oB p [a,b] left (by simp) (by omega) (by simp [ha,hb])
 have hsd:=fun a=>jG a left
 unfold uh at *
 have hsx:fe u v s.miter.val=fe u v s.miter.val:=rfl
 have hst:c8 s.width.val s.miter.val s.tol.val s.cap s.join=c8 s.width.val s.miter.val s.tol.val s.cap s.join:=rfl
 unfold lC at hRES
 generalize aM (u.cross v)=gx at *
 generalize u.cross v=X at *
 generalize s.h=h at *
 generalize s.tol.val=tol at *
 generalize s.width.val=w at *
 generalize s.cap=C at *
 generalize s.join=J at *
 generalize mV p h tol=RN at *
 generalize iL u v h tol left 4097 0=TK at *
 generalize aM (u.dot u)=g1 at *
 generalize aM (v.dot v)=g2 at *
 generalize u.dot u=uu at *
 generalize v.dot v=vv at *
 have yS:∀b:Bool,b=decide (fe u v s.miter.val)→(b=true↔fe u v s.miter.val):=fun b hb=>by rw [hb,decide_eq_true_iff]
 obtain ⟨SH,hSH⟩:∃b:Bool,b=decide (fe u v s.miter.val):=⟨_,rfl⟩
 have yS:=yS SH hSH
 rw [←hSH] at ks
 have hif:∀(A B:Option (List PQ)),(if J=0∧fe u v s.miter.val then A else B)=if J=0∧SH=true then A else B:=fun A B=>by
  by_cases hq:fe u v s.miter.val
  ·have:=yS.2 hq
   simp [hq,this]
  ·have:SH=false:=Bool.eq_false_iff.2 fun h=>hq (yS.1 h)
   simp [hq,this]
 rw [hif] at hRES
 clear hsx hst hSH
 generalize bJ s.miter.val 1=c1 at *
 generalize bJ s.miter.val 64=c2 at *
 generalize s.miter.val=m at *
 generalize aM w=sw at *
 generalize aM tol=stl at *
 unfold mv eL c8 at *
 simp only [aP,bc] at *
 try unfold fC at *
 simp -implicitDefEqProofs [go_sem]
 refine ac d1 ?_
 simp -implicitDefEqProofs [go_sem]
 refine ac d2 ?_
 by_cases a1:u=⟨0,0⟩
 ·rw [if_pos (.inl a1)] at hRES
  simp -implicitDefEqProofs [go_sem,d3.2 a1,aL]
  rw [hRES]
  exact Wk.agg (.cons (Wk.nil 0 6 true) (.cons (Wk.refl _) .nil))
 have a1':¬g1=0:=fun h=>a1 (d3.1 h)
 simp -implicitDefEqProofs [go_sem,a1']
 refine ac d4 ?_
 simp -implicitDefEqProofs [go_sem]
 refine ac d5 ?_
 by_cases a2:v=⟨0,0⟩
 ·rw [if_pos (.inr a2)] at hRES
  simp -implicitDefEqProofs [go_sem,d6.2 a2,aL]
  rw [hRES]
  exact Wk.agg (.cons (Wk.nil 0 6 true) (.cons (Wk.refl _) .nil))
 have a2':¬g2=0:=fun h=>a2 (d6.1 h)
 rw [if_neg (fun h=>h.elim a1 a2)] at hRES
 simp -implicitDefEqProofs [go_sem,a2']
 refine aa w1 ?_
 by_cases a3:w≤0
 ·rw [if_pos (fun hh=>absurd (hmay.1 hh).1 (by grind))] at hRES
  simp -implicitDefEqProofs [go_sem,y1.2 a3,aL]
  rw [hRES]
  exact Wk.agg (.cons (Wk.nil 0 6 true) (.cons (Wk.refl _) .nil))
 have a3':¬sw≤0:=fun h=>a3 (y1.1 h)
 simp -implicitDefEqProofs [go_sem,a3']
 refine aa w2 ?_
 by_cases a4:tol≤0
 ·rw [if_pos (fun hh=>absurd (hmay.1 hh).2.1 (by grind))] at hRES
  simp -implicitDefEqProofs [go_sem,y2.2 a4,aL]
  rw [hRES]
  exact Wk.agg (.cons (Wk.nil 0 6 true) (.cons (Wk.refl _) .nil))
 have a4':¬stl≤0:=fun h=>a4 (y2.1 h)
 by_cases a5:J<0
 ·rw [if_pos (fun hh=>absurd (hmay.1 hh).2.2.1 (by omega))] at hRES
  simp -implicitDefEqProofs [go_sem,a4',a5,aL]
  rw [hRES]
  exact Wk.agg (.cons (Wk.nil 0 6 true) (.cons (Wk.refl _) .nil))
 by_cases a6:2<J
 ·rw [if_pos (fun hh=>absurd (hmay.1 hh).2.2.2.1 (by omega))] at hRES
  simp -implicitDefEqProofs [go_sem,a4',a5,a6,aL]
  rw [hRES]
  exact Wk.agg (.cons (Wk.nil 0 6 true) (.cons (Wk.refl _) .nil))
 have h0:=hHpos (by grind)
 have t0:0<tol:=by grind
 have kf1:=kf1 h0 t0 a1
 have kf2:=kf2 h0 t0 a2
 have km:=km a1 a2
 by_cases a7:J=0
 ·subst a7
  simp -implicitDefEqProofs [go_sem,a4',a5,a6]
  refine aa k1 ?_
  simp -implicitDefEqProofs [go_sem]
  refine aa m1 ?_
  by_cases a8:m<1
  ·rw [if_pos (fun hh=>absurd ((hmay.1 hh).2.2.2.2 rfl).1 (by grind))] at hRES
   simp -implicitDefEqProofs [go_sem,y3.2 a8,aL]
   rw [hRES]
   exact Wk.agg (.cons (Wk.nil 0 6 true) (.cons (Wk.refl _) .nil))
  have a8':¬c1<0:=fun h=>a8 (y3.1 h)
  simp -implicitDefEqProofs [go_sem,a8']
  refine aa k64 ?_
  simp -implicitDefEqProofs [go_sem]
  refine aa m64 ?_
  by_cases a9:64<m
  ·rw [if_pos (fun hh=>absurd ((hmay.1 hh).2.2.2.2 rfl).2 (by grind))] at hRES
   simp -implicitDefEqProofs [go_sem,y4.2 a9,aL]
   rw [hRES]
   exact Wk.agg (.cons (Wk.nil 0 6 true) (.cons (Wk.refl _) .nil))
  have a9':¬0<c2:=fun h=>a9 (y4.1 h)
  rw [if_neg (fun hh=>hh (hmay.2 ⟨by grind,by grind,by omega,by omega,fun _=>⟨by grind,by grind⟩⟩)),if_neg (by decide)] at hRES
  simp -implicitDefEqProofs [go_sem,a9']
  refine ac kh ?_
  simp -implicitDefEqProofs [go_sem]
  refine ac kx ?_
  simp -implicitDefEqProofs [go_sem]
  refine ac kg ?_
  by_cases b1:X=0
  ·rw [if_pos b1] at hRES
   simp -implicitDefEqProofs [go_sem,y5.2 b1,aL]
   rw [hRES]
   exact Wk.agg (.cons (Wk.nil 0 6 true) (.cons (Wk.refl _) .nil))
  have b1':¬gx=0:=fun h=>b1 (y5.1 h)
  rw [if_neg b1] at hRES
  simp -implicitDefEqProofs [go_sem,b1',hgl]
  refine ac ks ?_
  cases SH
  ·rw [if_neg (fun h=>by cases h.2)] at hRES
   simp -implicitDefEqProofs [go_sem]
   cases hf1:dt u h tol with
   | none =>
    rw [hf1] at kf1 hRES
    cases hf2:dt v h tol with
    | none =>
     rw [hf2] at kf2 hRES
     unfold zK at kf1 kf2
     simp only at kf1 kf2 hRES
     have e1:∀(n:PQ) (a b:AV),List.drop 7 (eC n++[a,b])=[b]:=fun _ _ _=>rfl
     have e2:∀(n:PQ) (a b:AV),List.take 8 (eC n++[a,b])=eC n++[a,b]:=fun _ _ _=>rfl
     have e3:∀(n:PQ) (a b:AV),(eC n++[a,b]).length=8:=fun _ _ _=>rfl
     have e4:∀(n:PQ) (a b:AV),List.take 6 (eC n++[a,b])=eC n:=fun _ _ _=>rfl
     have e5:∀(n:PQ) (a b:AV),List.drop 8 (eC n++[a,b])=[]:=fun _ _ _=>rfl
     refine ao _ kf1 (by simp [go_sem,bH,eZ,aF]) ?_
     simp -implicitDefEqProofs [go_sem,e1,e2,e3,e4,e5]
     refine ao _ kf2 (by simp [go_sem,bH,eZ,aF]) ?_
     simp -implicitDefEqProofs [go_sem,e1,e2,e3,e4,e5,aL]
     rw [hRES]
     exact Wk.agg (.cons (Wk.nil 0 6 true) (.cons (Wk.refl _) .nil))
    | some x =>
     obtain ⟨n2,j2⟩:=x
     rw [hf2] at kf2 hRES
     unfold zK at kf1 kf2
     simp only at kf1 kf2 hRES
     have e1:∀(n:PQ) (a b:AV),List.drop 7 (eC n++[a,b])=[b]:=fun _ _ _=>rfl
     have e2:∀(n:PQ) (a b:AV),List.take 8 (eC n++[a,b])=eC n++[a,b]:=fun _ _ _=>rfl
     have e3:∀(n:PQ) (a b:AV),(eC n++[a,b]).length=8:=fun _ _ _=>rfl
     have e4:∀(n:PQ) (a b:AV),List.take 6 (eC n++[a,b])=eC n:=fun _ _ _=>rfl
     have e5:∀(n:PQ) (a b:AV),List.drop 8 (eC n++[a,b])=[]:=fun _ _ _=>rfl
     refine ao _ kf1 (by simp [go_sem,bH,eZ,aF]) ?_
     simp -implicitDefEqProofs [go_sem,e1,e2,e3,e4,e5]
     refine ao _ kf2 (by simp [go_sem,bH,eZ,aF]) ?_
     simp -implicitDefEqProofs [go_sem,e1,e2,e3,e4,e5,aL]
     rw [hRES]
     exact Wk.agg (.cons (Wk.nil 0 6 true) (.cons (Wk.refl _) .nil))
   | some x =>
    obtain ⟨n1,j1⟩:=x
    rw [hf1] at kf1 hRES
    cases hf2:dt v h tol with
    | none =>
     rw [hf2] at kf2 hRES
     unfold zK at kf1 kf2
     simp only at kf1 kf2 hRES
     have e1:∀(n:PQ) (a b:AV),List.drop 7 (eC n++[a,b])=[b]:=fun _ _ _=>rfl
     have e2:∀(n:PQ) (a b:AV),List.take 8 (eC n++[a,b])=eC n++[a,b]:=fun _ _ _=>rfl
     have e3:∀(n:PQ) (a b:AV),(eC n++[a,b]).length=8:=fun _ _ _=>rfl
     have e4:∀(n:PQ) (a b:AV),List.take 6 (eC n++[a,b])=eC n:=fun _ _ _=>rfl
     have e5:∀(n:PQ) (a b:AV),List.drop 8 (eC n++[a,b])=[]:=fun _ _ _=>rfl
     refine ao _ kf1 (by simp [go_sem,bH,eZ,aF]) ?_
     simp -implicitDefEqProofs [go_sem,e1,e2,e3,e4,e5]
     refine ao _ kf2 (by simp [go_sem,bH,eZ,aF]) ?_
     simp -implicitDefEqProofs [go_sem,e1,e2,e3,e4,e5,aL]
     rw [hRES]
     exact Wk.agg (.cons (Wk.nil 0 6 true) (.cons (Wk.refl _) .nil))
    | some x =>
     obtain ⟨n2,j2⟩:=x
     rw [hf2] at kf2 hRES
     unfold zK at kf1 kf2
     simp only at kf1 kf2 hRES
     have e1:∀(n:PQ) (a b:AV),List.drop 7 (eC n++[a,b])=[b]:=fun _ _ _=>rfl
     have e2:∀(n:PQ) (a b:AV),List.take 8 (eC n++[a,b])=eC n++[a,b]:=fun _ _ _=>rfl
     have e3:∀(n:PQ) (a b:AV),(eC n++[a,b]).length=8:=fun _ _ _=>rfl
     have e4:∀(n:PQ) (a b:AV),List.take 6 (eC n++[a,b])=eC n:=fun _ _ _=>rfl
     have e5:∀(n:PQ) (a b:AV),List.drop 8 (eC n++[a,b])=[]:=fun _ _ _=>rfl
     refine ao _ kf1 (by simp [go_sem,bH,eZ,aF]) ?_
     simp -implicitDefEqProofs [go_sem,e1,e2,e3,e4,e5]
     refine ao _ kf2 (by simp [go_sem,bH,eZ,aF]) ?_
     have s1:=hfs1 n1 j1 hf1
     have s2:=hfs2 n2 j2 hf2
     have u1:=hsd n1
     have u2:=hsd n2
     have hr:=hround (au n1 left) (au n2 left) (by rw [cE]; omega) (by rw [cE]; omega)
     generalize hRL:p::List.map p.add (if left then [au n1 left,au n2 left].reverse else [au n1 left,au n2 left])=RL at hr hRES
     simp only [List.map_cons,List.map_nil,aP] at u1 u2 hr
     generalize au n1 left=A at *
     generalize au n2 left=B at *
     simp -implicitDefEqProofs [go_sem,e1,e2,e3,e4,e5]
     refine aa u1 ?_
     simp -implicitDefEqProofs [go_sem,e1,e2,e3,e4,e5]
     refine aa u2 ?_
     simp -implicitDefEqProofs [go_sem]
     refine lN [68] _ (by kernel_rfl) hr (by simp -implicitDefEqProofs [go_sem]) (by simp -implicitDefEqProofs [go_sem,bH]) (by simp -implicitDefEqProofs [go_sem]) (by simp -implicitDefEqProofs [go_sem]) ?_
     simp -implicitDefEqProofs [go_sem,aL,bH]
     rw [hRES]
     exact Wk.refl _
  ·rw [if_pos ⟨rfl,rfl⟩] at hRES
   simp -implicitDefEqProofs [go_sem]
   refine ac km ?_
   simp -implicitDefEqProofs [go_sem,aL]
   rw [hRES]
   cases TK<;>exact Wk.refl _
 ·rw [if_neg (fun hh=>hh (hmay.2 ⟨by grind,by grind,by omega,by omega,fun h=>absurd h a7⟩))] at hRES
  simp -implicitDefEqProofs [go_sem,a4',a5,a6,a7]
  refine ac kh ?_
  by_cases b0:J=2
  ·rw [if_pos b0] at hRES
   simp -implicitDefEqProofs [go_sem,b0]
   refine ac kr ?_
   simp -implicitDefEqProofs [go_sem,aL,bH]
   rw [hRES]
   exact Wk.refl _
  rw [if_neg b0] at hRES
  simp -implicitDefEqProofs [go_sem,b0]
  refine ac kx ?_
  simp -implicitDefEqProofs [go_sem]
  refine ac kg ?_
  by_cases b1:X=0
  ·rw [if_pos b1] at hRES
   simp -implicitDefEqProofs [go_sem,y5.2 b1,aL]
   rw [hRES]
   exact Wk.agg (.cons (Wk.nil 0 6 true) (.cons (Wk.refl _) .nil))
  have b1':¬gx=0:=fun h=>b1 (y5.1 h)
  rw [if_neg b1,if_neg (fun h=>a7 h.1)] at hRES
  simp -implicitDefEqProofs [go_sem,b1',hgl,a7]
  cases hf1:dt u h tol with
  | none =>
   rw [hf1] at kf1 hRES
   cases hf2:dt v h tol with
   | none =>
    rw [hf2] at kf2 hRES
    unfold zK at kf1 kf2
    simp only at kf1 kf2 hRES
    have e1:∀(n:PQ) (a b:AV),List.drop 7 (eC n++[a,b])=[b]:=fun _ _ _=>rfl
    have e2:∀(n:PQ) (a b:AV),List.take 8 (eC n++[a,b])=eC n++[a,b]:=fun _ _ _=>rfl
    have e3:∀(n:PQ) (a b:AV),(eC n++[a,b]).length=8:=fun _ _ _=>rfl
    have e4:∀(n:PQ) (a b:AV),List.take 6 (eC n++[a,b])=eC n:=fun _ _ _=>rfl
    have e5:∀(n:PQ) (a b:AV),List.drop 8 (eC n++[a,b])=[]:=fun _ _ _=>rfl
    refine ao _ kf1 (by simp [go_sem,bH,eZ,aF]) ?_
    simp -implicitDefEqProofs [go_sem,e1,e2,e3,e4,e5]
    refine ao _ kf2 (by simp [go_sem,bH,eZ,aF]) ?_
    simp -implicitDefEqProofs [go_sem,e1,e2,e3,e4,e5,aL]
    rw [hRES]
    exact Wk.agg (.cons (Wk.nil 0 6 true) (.cons (Wk.refl _) .nil))
   | some x =>
    obtain ⟨n2,j2⟩:=x
    rw [hf2] at kf2 hRES
    unfold zK at kf1 kf2
    simp only at kf1 kf2 hRES
    have e1:∀(n:PQ) (a b:AV),List.drop 7 (eC n++[a,b])=[b]:=fun _ _ _=>rfl
    have e2:∀(n:PQ) (a b:AV),List.take 8 (eC n++[a,b])=eC n++[a,b]:=fun _ _ _=>rfl
    have e3:∀(n:PQ) (a b:AV),(eC n++[a,b]).length=8:=fun _ _ _=>rfl
    have e4:∀(n:PQ) (a b:AV),List.take 6 (eC n++[a,b])=eC n:=fun _ _ _=>rfl
    have e5:∀(n:PQ) (a b:AV),List.drop 8 (eC n++[a,b])=[]:=fun _ _ _=>rfl
    refine ao _ kf1 (by simp [go_sem,bH,eZ,aF]) ?_
    simp -implicitDefEqProofs [go_sem,e1,e2,e3,e4,e5]
    refine ao _ kf2 (by simp [go_sem,bH,eZ,aF]) ?_
    simp -implicitDefEqProofs [go_sem,e1,e2,e3,e4,e5,aL]
    rw [hRES]
    exact Wk.agg (.cons (Wk.nil 0 6 true) (.cons (Wk.refl _) .nil))
  | some x =>
   obtain ⟨n1,j1⟩:=x
   rw [hf1] at kf1 hRES
   cases hf2:dt v h tol with
   | none =>
    rw [hf2] at kf2 hRES
    unfold zK at kf1 kf2
    simp only at kf1 kf2 hRES
    have e1:∀(n:PQ) (a b:AV),List.drop 7 (eC n++[a,b])=[b]:=fun _ _ _=>rfl
    have e2:∀(n:PQ) (a b:AV),List.take 8 (eC n++[a,b])=eC n++[a,b]:=fun _ _ _=>rfl
    have e3:∀(n:PQ) (a b:AV),(eC n++[a,b]).length=8:=fun _ _ _=>rfl
    have e4:∀(n:PQ) (a b:AV),List.take 6 (eC n++[a,b])=eC n:=fun _ _ _=>rfl
    have e5:∀(n:PQ) (a b:AV),List.drop 8 (eC n++[a,b])=[]:=fun _ _ _=>rfl
    refine ao _ kf1 (by simp [go_sem,bH,eZ,aF]) ?_
    simp -implicitDefEqProofs [go_sem,e1,e2,e3,e4,e5]
    refine ao _ kf2 (by simp [go_sem,bH,eZ,aF]) ?_
    simp -implicitDefEqProofs [go_sem,e1,e2,e3,e4,e5,aL]
    rw [hRES]
    exact Wk.agg (.cons (Wk.nil 0 6 true) (.cons (Wk.refl _) .nil))
   | some x =>
    obtain ⟨n2,j2⟩:=x
    rw [hf2] at kf2 hRES
    unfold zK at kf1 kf2
    simp only at kf1 kf2 hRES
    have e1:∀(n:PQ) (a b:AV),List.drop 7 (eC n++[a,b])=[b]:=fun _ _ _=>rfl
    have e2:∀(n:PQ) (a b:AV),List.take 8 (eC n++[a,b])=eC n++[a,b]:=fun _ _ _=>rfl
    have e3:∀(n:PQ) (a b:AV),(eC n++[a,b]).length=8:=fun _ _ _=>rfl
    have e4:∀(n:PQ) (a b:AV),List.take 6 (eC n++[a,b])=eC n:=fun _ _ _=>rfl
    have e5:∀(n:PQ) (a b:AV),List.drop 8 (eC n++[a,b])=[]:=fun _ _ _=>rfl
    refine ao _ kf1 (by simp [go_sem,bH,eZ,aF]) ?_
    simp -implicitDefEqProofs [go_sem,e1,e2,e3,e4,e5]
    refine ao _ kf2 (by simp [go_sem,bH,eZ,aF]) ?_
    have s1:=hfs1 n1 j1 hf1
    have s2:=hfs2 n2 j2 hf2
    have u1:=hsd n1
    have u2:=hsd n2
    have hr:=hround (au n1 left) (au n2 left) (by rw [cE]; omega) (by rw [cE]; omega)
    generalize hRL:p::List.map p.add (if left then [au n1 left,au n2 left].reverse else [au n1 left,au n2 left])=RL at hr hRES
    simp only [List.map_cons,List.map_nil,aP] at u1 u2 hr
    generalize au n1 left=A at *
    generalize au n2 left=B at *
    simp -implicitDefEqProofs [go_sem,e1,e2,e3,e4,e5]
    refine aa u1 ?_
    simp -implicitDefEqProofs [go_sem,e1,e2,e3,e4,e5]
    refine aa u2 ?_
    simp -implicitDefEqProofs [go_sem]
    refine lN [68] _ (by kernel_rfl) hr (by simp -implicitDefEqProofs [go_sem]) (by simp -implicitDefEqProofs [go_sem,bH]) (by simp -implicitDefEqProofs [go_sem]) (by simp -implicitDefEqProofs [go_sem]) ?_
    simp -implicitDefEqProofs [go_sem,aL,bH]
    rw [hRES]
    exact Wk.refl _
theorem ES (s:SR) (hs:s.In 1048576):ag Tryz.prog 42 [s.av] (uh s):=by
 have h1:=finr s.width hs.width.mono
 have h2:=finr s.miter hs.miter.mono
 have h3:=finr s.tol hs.tol.mono
 refine Pg Tryz.func42 rfl [.cell 2 100] rfl (by unfold uh; simp only [ro]; exact gw _ _ _ _ _) ?_
 unfold uh c8 SR.av SR.cs
 unfold RQ.av fA at *
 simp -implicitDefEqProofs [go_sem,qA]
 refine aa h1 ?_
 simp -implicitDefEqProofs [go_sem,qA]
 refine aa h2 ?_
 simp -implicitDefEqProofs [go_sem,qA]
 refine aa h3 ?_
 simp -implicitDefEqProofs [go_sem,aL,qA]
def xZ (V:List AV) (e:Int) (l:List PQ) (e2:Int):List AV:=if e≠0 then V else if e2≠0 then [] else if l=[] then V else V++[eL l]
def CI (e e2:Int):Int:=if e≠0 then e else e2
theorem Ii (V:List AV) (hVl:V.length≤100) (e:Int) (l:List PQ) (e2:Int) (b a:Nat) (f:Nat→BS) (n:Nat) (K:AV→(Nat→BS)→Nat→Prop)
 (hfb:f b = .live 2 [.agg [di 1 a V,.int .i64 e]]) (hfa:V≠[]→f a = .live 1 V∧a≠b∧a<n) (hbn:b<n)
 (hK:∀a' f' n',n≤n'→f' b = .live 2 [.agg [di 1 a' (xZ V e l e2),.int .i64 (CI e e2)]]→(xZ V e l e2≠[]→f' a' = .live 1 (xZ V e l e2)∧a'≠b∧a'<n'∧(a'<n→V≠[]∧a'=a))→(∀j,j<n→j≠b→(V≠[]→j≠a)→f' j=f j)→K (.tup []) f' n') :
 CA Tryz.prog 112 [.ptr b 0 0,eL l,.int .i64 e2] f n K:=by
 refine Cg Tryz.func112 rfl [] rfl ?_
 have rl:=cY l
 unfold xZ CI at hK
 unfold eL at *
 by_cases h1:e=0
 rotate_left
 ·simp only [ne_eq,h1,not_false_eq_true,if_true] at hK
  simp -implicitDefEqProofs [go_sem,hfb,h1]
  exact hK a _ _ (Nat.le_refl _) hfb (fun h=>⟨(hfa h).1,(hfa h).2.1,(hfa h).2.2,fun _=>⟨h,rfl⟩⟩) fun _ _ _ _=>rfl
 subst h1
 simp only [ne_eq,not_true_eq_false,if_false] at hK
 by_cases h2:e2=0
 rotate_left
 ·simp only [h2,not_false_eq_true,if_true] at hK
  simp -implicitDefEqProofs [go_sem,hfb,h2]
  exact hK 0 _ _ (Nat.le_refl _) (by simp -implicitDefEqProofs [go_sem]) (fun h=>absurd trivial h) fun j _ h2 _=>by simp -implicitDefEqProofs [go_sem,h2]
 subst h2
 simp only [not_true_eq_false,if_false] at hK
 by_cases h3:l=[]
 ·simp only [h3,if_true] at hK
  simp -implicitDefEqProofs [go_sem,hfb,h3]
  exact hK a _ _ (Nat.le_refl _) hfb (fun h=>⟨(hfa h).1,(hfa h).2.1,(hfa h).2.2,fun _=>⟨h,rfl⟩⟩) fun _ _ _ _=>rfl
 ·simp only [h3,if_false] at hK
  have h4:0<l.length:=by have:=mt List.length_eq_zero_iff.1 h3; omega
  have nb:¬b=n:=by omega
  have nc:¬n=b:=by omega
  simp -implicitDefEqProofs [go_sem,hfb,h3,h4]
  refine aI (.inl rfl) (by omega) (by omega) (by simp -implicitDefEqProofs [go_sem,fitsL_ro _ _ rl]) (by simp<;>omega) (fun h=>by
   obtain ⟨g1,g2,g3⟩:=hfa h
   simp -implicitDefEqProofs [go_sem,show ¬a=n by omega,g1]) ?_
  have hk:kill a V (aH f n (BS.live 1 [.sl 6 false (l.map eA)])) b = .live 2 [.agg [di 1 a V,.int .i64 0]]:=by
   unfold kill
   split
   ·simp -implicitDefEqProofs [go_sem,nb,hfb]
   ·rename_i h
    simp -implicitDefEqProofs [go_sem,nb,hfb,Ne.symm (hfa h).2.1]
  have n2:¬b=n+1:=by omega
  have apc:(di 1 a V).cells=[di 1 a V]:=by unfold di; split<;>rfl
  simp -implicitDefEqProofs [go_sem,hk,n2,apc]
  refine hK (n+1) _ _ (by omega) (by simp -implicitDefEqProofs [go_sem]) (fun _=>⟨by simp -implicitDefEqProofs [go_sem,show ¬n+1=b by omega],by omega,by omega,fun h=>absurd h (by omega)⟩) fun j h1 h2 h5=>?_
  have n3:¬j=n+1:=by omega
  have n4:¬j=n:=by omega
  unfold kill
  split
  ·simp -implicitDefEqProofs [go_sem,h2,n3,n4]
  ·rename_i h
   simp -implicitDefEqProofs [go_sem,h2,n3,n4,h5 h]
theorem vV {A:List (List PQ×Int)} {k:Nat} (h:k<A.length) :
 xZ ((aD (A.take k)).1.map eL) (aD (A.take k)).2 (A.getD k ([],0)).1 (A.getD k ([],0)).2=(aD (A.take (k+1))).1.map eL∧CI (aD (A.take k)).2 (A.getD k ([],0)).2=(aD (A.take (k+1))).2:=by
 have hs:=G6 h
 unfold xZ CI
 by_cases h1:(aD (A.take k)).2=0
 ·rw [if_neg (fun h=>h h1)] at hs
  by_cases h2:(A.getD k ([],0)).2=0
  ·rw [if_neg (fun h=>h h2)] at hs
   rw [hs]
   simp only [h1,h2,ne_eq,not_true_eq_false,if_false]
   by_cases h3:(A.getD k ([],0)).1=[]
   ·simp only [h3,if_true,List.append_nil,and_self]
   ·simp only [h3,if_false,List.map_append,List.map_cons,List.map_nil,and_self]
  ·rw [if_pos h2] at hs
   rw [hs]
   simp only [h1,h2,ne_eq,not_true_eq_false,if_false,not_false_eq_true,if_true,List.map_nil,and_self]
 ·rw [if_pos h1] at hs
  rw [hs]
  simp only [h1,ne_eq,not_false_eq_true,if_true,and_self]
def Ms (x:List (List PQ)×Int):AV := .agg [yp x.1,.int .i64 x.2]
theorem MD (x:List (List PQ)×Int):ro (Ms x):=by unfold Ms; simp only [ro,roL]; exact ⟨Ix _,trivial,trivial⟩
theorem kY (e:Int):Wk (.agg [.sl 0 true [],.int .i64 e]) (Ms ([],e)):=Wk.agg (.cons (Wk.nil 0 1 true) (.cons (Wk.refl _) .nil))
theorem D8 {f:Nat→BS} {a:Nat} {X:List (List PQ)×Int} (h:X.1.map eL≠[]→f a = .live 1 (X.1.map eL)):aZ f (di 1 a (X.1.map eL))∧ro (bg f (di 1 a (X.1.map eL)))∧Wk (.agg [bg f (di 1 a (X.1.map eL)),.int .i64 X.2]) (Ms X):=by
 obtain ⟨h1,h2,h3⟩:=fS (jL X.1) h
 unfold Ms yp
 exact ⟨h1,h2,Wk.agg (.cons h3 (.cons (Wk.refl _) .nil))⟩
def HJ (S CL:List AV) (closed:Bool) (V:List AV) (e:Int):List (Nat×BS):=[(1,.live 11 [.agg S]),(2,.live 2 [.agg [.sl 0 true [],.int .i64 0]]),(41,.live 2 [.agg [.sl 6 false CL,.bool closed]]),(49,.live 2 [.agg [di 1 3 V,.int .i64 e]])]++cR 1 3 V
structure HeldP (S CL:List AV) (closed:Bool) (V:List AV) (e:Int) (a:Nat) (f:Nat→BS) (n:Nat):Prop where
 f1:f 1 = .live 11 [.agg S]
 f2:f 2 = .live 2 [.agg [.sl 0 true [],.int .i64 0]]
 f41:f 41 = .live 2 [.agg [.sl 6 false CL,.bool closed]]
 f49:f 49 = .live 2 [.agg [di 1 a V,.int .i64 e]]
 fa:V≠[]→f a = .live 1 V∧a≠1∧a≠2∧a≠41∧a≠49∧a<n
 n50:50≤n
theorem JI (S CL:List AV) (closed:Bool) (V:List AV) (e:Int):HeldP S CL closed V e 3 (hp 50 (HJ S CL closed V e)) 50:=by
 unfold HJ
 by_cases hV:V=[]
 ·subst hV
  exact ⟨by simp -implicitDefEqProofs [go_sem],by simp -implicitDefEqProofs [go_sem],by simp -implicitDefEqProofs [go_sem],by simp -implicitDefEqProofs [go_sem],fun h=>absurd rfl h,Nat.le_refl _⟩
 ·rw [aC hV]
  exact ⟨by simp -implicitDefEqProofs [go_sem],by simp -implicitDefEqProofs [go_sem],by simp -implicitDefEqProofs [go_sem],by simp -implicitDefEqProofs [go_sem],fun _=>⟨by simp -implicitDefEqProofs [go_sem],by omega,by omega,by omega,by omega,by omega⟩,Nat.le_refl _⟩
theorem HeldP.hold {S CL:List AV} {closed:Bool} {V:List AV} {e:Int} {a:Nat} {f:Nat→BS} {n:Nat} (h:HeldP S CL closed V e a f n) (hS:roL S) (hC:roL CL) (hV:roL V):od 0 50 3 (HJ S CL closed V e) a f:=by
 obtain ⟨h1,h2,h3,h4,h5,_⟩:=h
 have r1:=renL_ro (nm [(3,a)]) _ hS
 have c1:=cloL_ro (n:=50) _ hS
 have r2:=renL_ro (nm [(3,a)]) _ hC
 have c2:=cloL_ro (n:=50) _ hC
 have r3:=renL_ro (nm [(3,a)]) _ hV
 have c3:=cloL_ro (n:=50) _ hV
 unfold od HJ
 by_cases hV0:V=[]
 ·subst hV0
  refine ⟨fun p hpm q hqm e=>?_,fun p hpm=>?_⟩
  ·simp only [cR,if_true,List.append_nil,List.mem_cons,List.not_mem_nil,or_false] at hpm hqm
   rcases hpm with rfl|rfl|rfl|rfl<;>rcases hqm with rfl|rfl|rfl|rfl<;>first|rfl|(exfalso; simp -implicitDefEqProofs [go_sem] at e)
  ·simp only [cR,if_true,List.append_nil,List.mem_cons,List.not_mem_nil,or_false] at hpm
   rcases hpm with rfl|rfl|rfl|rfl<;>simp -implicitDefEqProofs [go_sem,h1,h2,h3,h4,r1,c1,r2,c2]
 ·obtain ⟨g1,g2,g3,g4,g5,g6⟩:=h5 hV0
  rw [aV hV0] at h4
  rw [aC hV0,aV hV0]
  refine ⟨fun p hpm q hqm e=>?_,fun p hpm=>?_⟩
  ·simp only [List.cons_append,List.nil_append,List.mem_cons,List.not_mem_nil,or_false] at hpm hqm
   rcases hpm with rfl|rfl|rfl|rfl|rfl<;>rcases hqm with rfl|rfl|rfl|rfl|rfl<;>first|rfl|(exfalso; simp -implicitDefEqProofs [go_sem] at e; omega)|(exfalso; simp -implicitDefEqProofs [go_sem] at e)
  ·simp only [List.cons_append,List.nil_append,List.mem_cons,List.not_mem_nil,or_false] at hpm
   rcases hpm with rfl|rfl|rfl|rfl|rfl<;>simp -implicitDefEqProofs [go_sem,h1,h2,h3,h4,g1,r1,c1,r2,c2,r3,c3]
theorem rK {S CL:List AV} {closed:Bool} {V:List AV} {e:Int} {a:Nat} {f:Nat→BS} {n:Nat} (h:HeldP S CL closed V e a f n) (hVl:V.length≤100) (x:List PQ×Int) {V':List AV} {e':Int} (hp:xZ V e x.1 x.2=V'∧CI e x.2=e') (K:AV→(Nat→BS)→Nat→Prop)
 (hK:∀a' f' n',HeldP S CL closed V' e' a' f' n'→K (.tup []) f' n'):CA Tryz.prog 112 [.ptr 49 0 0,eL x.1,.int .i64 x.2] f n K:=by
 obtain ⟨h1,h2,h3,h4,h5,h6⟩:=h
 refine Ii V hVl e x.1 x.2 49 a f n K h4 (fun h=>⟨(h5 h).1,(h5 h).2.2.2.2.1,(h5 h).2.2.2.2.2⟩) (by omega) fun a' f' n' p0 p1 p2 p3=>hK a' f' n' ?_
 rw [hp.1] at p1 p2
 rw [hp.2] at p1
 have key:∀j,j<50→(V≠[]→j≠a)→j≠49→f' j=f j:=fun j q1 q2 q3=>p3 j (by omega) q3 q2
 refine ⟨(key 1 (by omega) (fun h=>Ne.symm (h5 h).2.1) (by omega)).trans h1,(key 2 (by omega) (fun h=>Ne.symm (h5 h).2.2.1) (by omega)).trans h2,(key 41 (by omega) (fun h=>Ne.symm (h5 h).2.2.2.1) (by omega)).trans h3,p1,fun h=>?_,by omega⟩
 obtain ⟨q1,q2,q3,q4⟩:=p2 h
 have q5:a'=1∨a'=2∨a'=41→False:=fun h=>by
  obtain ⟨q6,q7⟩:=q4 (by omega)
  have:=h5 q6
  omega
 exact ⟨q1,fun h=>q5 (.inl h),fun h=>q5 (.inr (.inl h)),fun h=>q5 (.inr (.inr h)),q2,q3⟩
theorem FQ (l : List PQ) (closed : Bool) (s : SR) (hl : l.length ≤ 16) (hz0 : ∀ p ∈ l, p.sz ≤ 1) (hcy : yn qI l) (hi : s.In 1048576) (hs0 : l ≠ [] → s.Sml) : ag Tryz.prog 41 [yT l closed, uh s] (Ms (c9 l closed s)) := by
  have g1 := aE s.width.val
  have z1 := bR (x := s.width.val)
  have g2 := aE s.tol.val
  have z2 := bQ (x := s.tol.val)
  have hml : sz s.miter.val ≤ 1048576 := hi.miter.sz
  have k1 := cG 1 1 (by omega) (by omega) (by omega)
  rw [show ((1 : Int) : Rat) / ((1 : Int) : Rat) = 1 by grind] at k1
  have k2 := cG 64 1 (by omega) (by omega) (by omega)
  have y2 := gD (p := 64) (q := 1) (by omega) (by omega) (by omega)
  rw [show ((64 : Int) : Rat) / ((1 : Int) : Rat) = 64 by grind] at k2 y2
  have y1 := eH
  have k3 := bC s.miter.val 1 (by omega) (by omega)
  have k4 := bC s.miter.val 64 (by omega) (by omega)
  have z3 := iX (x := s.miter.val) (y := 1)
  have z4 := iu (x := s.miter.val) (y := 64)
  have g3 := jF l closed (by omega) (fun p hp => by have := hz0 p hp; omega)
  have hcl := ja l closed
  have hcz : ∀ p ∈ bp l closed, p.sz ≤ 1 := fun p hp => hz0 p (gO _ _ p hp)
  have hcc := pM closed hcy
  have hs1 : bp l closed ≠ [] → s.Sml := fun h => hs0 fun e => h (by rw [e]; cases closed <;> rfl)
  have hX' : c9 l closed s = if s.width.val ≤ 0 then ([], 0) else if ¬ qL s then ([], 1) else if bp l closed = [] then ([], 0) else aD (iz (bp l closed) closed s) := rfl
  generalize c9 l closed s = X at *
  generalize bp l closed = c at *
  obtain ⟨C, hC⟩ : ∃ C, C = s.cap := ⟨_, rfl⟩
  obtain ⟨J, hJ⟩ : ∃ J, J = s.join := ⟨_, rfl⟩
  have hsA : uh s = .agg (c8 s.width.val s.miter.val s.tol.val s.cap s.join) := rfl
  obtain ⟨S, hS⟩ : ∃ S, S = c8 s.width.val s.miter.val s.tol.val s.cap s.join := ⟨_, rfl⟩
  have q1 : S.length = 11 := by rw [hS]; rfl
  have q2 : (S.drop 8).take 3 = fC s.tol.val := by rw [hS]; rfl
  have q3 : S.take 11 = S := by rw [hS]; rfl
  have q4 : S.take 3 = fC s.width.val := by rw [hS]; rfl
  have q5 : roL S := by rw [hS]; exact gw _ _ _ _ _
  have q6 : (S.drop 3).take 3 = fC s.miter.val := by rw [hS]; rfl
  have q7 : S[6]'(by omega) = .int .i64 C := by subst hS; rw [hC]; rfl
  have q8 : S[7]'(by omega) = .int .i64 J := by subst hS; rw [hJ]; rfl
  rw [← hS] at hsA
  rw [hsA]
  have hmay : qL s ↔ 0 < aM s.tol.val ∧ 0 ≤ C ∧ C ≤ 2 ∧ 0 ≤ J ∧ J ≤ 2 ∧ 0 ≤ bJ s.miter.val 1 ∧ bJ s.miter.val 64 ≤ 0 := by rw [z2, z3, z4, hC, hJ]; exact Iff.rfl
  have rL := jt l closed
  have rC := jt c closed
  have eLl : yT l closed = .agg [eL l, .bool closed] := rfl
  have eCl : yT c closed = .agg [.sl 6 false (c.map eA), .bool closed] := rfl
  rw [eLl] at g3 rL ⊢
  rw [eCl] at g3 rC
  have rEL := oW l
  generalize eL l = EL at *
  refine ag.of_ca (MD _) (Cz Tryz.func41 rfl [.cell 4 97] rfl ?_)
  simp only [bc] at *
  generalize bJ s.miter.val 1 = c1 at *
  generalize bJ s.miter.val 64 = c2 at *
  generalize aM s.tol.val = s2 at *
  generalize aM s.width.val = s1 at *
  simp -implicitDefEqProofs [go_sem, rL, q1, q4]
  refine ac g1 ?_
  by_cases a1 : s1 ≤ 0
  · rw [if_pos (z1.1 a1)] at hX'
    rw [hX']
    simp -implicitDefEqProofs [go_sem, a1, aL]
    exact kY 0
  rw [if_neg (fun h => a1 (z1.2 h))] at hX'
  simp -implicitDefEqProofs [go_sem, a1]
  refine aU (by kernel_rfl) ?_
  simp -implicitDefEqProofs [go_sem, q1, q2]
  refine aa g2 ?_
  have hbad : (qL s → False) → X = ([], 1) := fun h => by rw [hX', if_pos h]
  by_cases a2 : 0 < s2
  rotate_left
  · rw [hbad fun h => a2 (hmay.1 h).1]
    simp -implicitDefEqProofs [go_sem, show s2 ≤ 0 by omega, aL]
    exact kY 1
  have b2 : ¬ s2 ≤ 0 := by omega
  by_cases a3 : 0 ≤ C
  rotate_left
  · rw [hbad fun h => a3 (hmay.1 h).2.1]
    simp -implicitDefEqProofs [go_sem, b2, q1, q7, show C < 0 by omega, aL]
    exact kY 1
  have b3 : ¬ C < 0 := by omega
  by_cases a4 : C ≤ 2
  rotate_left
  · rw [hbad fun h => a4 (hmay.1 h).2.2.1]
    simp -implicitDefEqProofs [go_sem, b2, b3, q1, q7, show 2 < C by omega, aL]
    exact kY 1
  have b4 : ¬ 2 < C := by omega
  by_cases a5 : 0 ≤ J
  rotate_left
  · rw [hbad fun h => a5 (hmay.1 h).2.2.2.1]
    simp -implicitDefEqProofs [go_sem, b2, b3, b4, q1, q7, q8, show J < 0 by omega, aL]
    exact kY 1
  have b5 : ¬ J < 0 := by omega
  by_cases a6 : J ≤ 2
  rotate_left
  · rw [hbad fun h => a6 (hmay.1 h).2.2.2.2.1]
    simp -implicitDefEqProofs [go_sem, b2, b3, b4, b5, q1, q7, q8, show 2 < J by omega, aL]
    exact kY 1
  have b6 : ¬ 2 < J := by omega
  simp -implicitDefEqProofs [go_sem, b2, b3, b4, b5, b6, q1, q6, q7, q8]
  refine aa k1 ?_
  simp -implicitDefEqProofs [go_sem]
  refine aa k3 ?_
  by_cases a7 : 0 ≤ c1
  rotate_left
  · rw [hbad fun h => a7 (hmay.1 h).2.2.2.2.2.1]
    simp -implicitDefEqProofs [go_sem, show c1 < 0 by omega, aL]
    exact kY 1
  have b7 : ¬ c1 < 0 := by omega
  simp -implicitDefEqProofs [go_sem, b7, q1, q6]
  refine aa k2 ?_
  simp -implicitDefEqProofs [go_sem]
  refine aa k4 ?_
  by_cases a8 : c2 ≤ 0
  rotate_left
  · rw [hbad fun h => a8 (hmay.1 h).2.2.2.2.2.2]
    simp -implicitDefEqProofs [go_sem, show 0 < c2 by omega, aL]
    exact kY 1
  have b8 : ¬ 0 < c2 := by omega
  clear hbad
  rw [if_neg (fun h => h (hmay.2 ⟨a2, a3, a4, a5, a6, a7, a8⟩))] at hX'
  simp -implicitDefEqProofs [go_sem, b8]
  refine ah _ g3 (by simp [go_sem, rEL]) ?_
  have hCl : (c.map eA).length = c.length := by simp
  have rCl := cY c
  simp -implicitDefEqProofs [go_sem]
  refine aU (by kernel_rfl) ?_
  by_cases a9 : c = []
  · rw [if_pos a9] at hX'
    rw [hX']
    simp -implicitDefEqProofs [go_sem, hCl, a9, aL]
    exact kY 0
  rw [if_neg a9] at hX'
  have hn0 : 0 < c.length := by have := mt List.length_eq_zero_iff.1 a9; omega
  have b9 : ¬ (c.length : Int) = 0 := by omega
  have hSm := hs1 a9
  by_cases b : c.length = 1
  · obtain ⟨p, rfl⟩ : ∃ p, c = [p] := by
      match c, b with
      | [p], _ => exact ⟨p, rfl⟩
    have k5 := BK p s (hcz p List.mem_cons_self) hSm
    rw [hsA] at k5
    unfold mv at k5
    have hpf := vV (A := [fW p s]) (k := 0) (by simp)
    have hXe : X = aD [fW p s] := by rw [hX']; rfl
    simp -implicitDefEqProofs [go_sem, b9, q1, q3, hCl, a9]
    refine aU (by kernel_rfl) ?_
    have u6 : (eC p).length = 6 := rfl
    have u7 : (eC p).take 6 = eC p := rfl
    rw [aP] at k5
    simp -implicitDefEqProofs [go_sem, q1, q3, aP, u6, u7]
    refine ao _ k5 (by simp [go_sem, q5]) ?_
    simp -implicitDefEqProofs [go_sem]
    refine Ii [] (by simp) 0 (fW p s).1 (fW p s).2 49 0 _ _ _ (by simp -implicitDefEqProofs [go_sem]) (fun h => absurd rfl h) (by omega) fun a' f' n' _ h1 h2 h3 => ?_
    have h4 := h3 2 (by omega) (by omega) (fun h => absurd rfl h)
    have e1 : xZ [] 0 (fW p s).1 (fW p s).2 = X.1.map eL := by rw [hXe]; exact hpf.1
    have e2 : CI 0 (fW p s).2 = X.2 := by rw [hXe]; exact hpf.2
    rw [e1] at h1 h2
    rw [e2] at h1
    simp -implicitDefEqProofs [go_sem] at h4
    simp -implicitDefEqProofs [go_sem, h1, h4, aL]
    refine D8 fun h => ?_
    obtain ⟨h5, h6, _, h7⟩ := h2 h
    have h8 : ¬ a' = 2 := fun e => absurd (h7 (by omega)).1 (fun h => h rfl)
    simp -implicitDefEqProofs [go_sem, h8, h5]
  have b1 : ¬ (c.length : Int) = 1 := by omega
  have hL : iz c closed s = cP c closed s := by unfold iz; rw [if_neg b]; rfl
  rw [hL] at hX'
  have hc2 : 2 ≤ c.length := by omega
  have hlen := Ae c closed s
  have hall := wI c closed s
  rw [hL] at hall
  have hfine := rU (closed := closed) a9 hcz hcc hSm
  rw [hL] at hfine
  have z := fun i => hcz _ (d7 a9 i)
  have dz : ∀ i, ((aK c (i + 1)).sub (aK c i)).sz ≤ 1 := fun i => w9 hcc a9 i
  have hbody : ∀ i, i < aG c.length closed → ag Tryz.prog 113 [eA (aK c i), eA (aK c (i + 1)), .agg S] (mv ((cP c closed s).getD i ([], 0))) := fun i hi => by
    have := BJ (aK c i) (aK c (i + 1)) s (z _) (z _) hSm
    rw [vG hi, ← hsA]; exact this
  have hjoin : ∀ j, iG closed ≤ j → j < aG c.length closed → ag Tryz.prog 114 [eA (aK c j), eA ((aK c j).sub (aK c (j + c.length - 1))), eA ((aK c (j + 1)).sub (aK c j)), .agg S] (mv ((cP c closed s).getD (aG c.length closed + (j - iG closed)) ([], 0))) := fun j h1 h2 => by
    have d1 := dz (j + c.length - 1)
    rw [show j + c.length - 1 + 1 = j + c.length by omega, ec] at d1
    have := yZ (aK c j) ((aK c j).sub (aK c (j + c.length - 1))) ((aK c (j + 1)).sub (aK c j)) s (z _) d1 (dz j) hSm
    rw [vJ h1 h2, ← hsA]; exact this
  have he0 : closed = false → ag Tryz.prog 115 [eA (aK c 0), eA ((aK c 0).sub (aK c 1)), .agg S] (mv ((cP c closed s).getD (aG c.length closed + (aG c.length closed - iG closed)) ([], 0))) := fun hcf => by
    subst hcf
    have z1 := PQ.sz_sub (aK c 0) (aK c 1)
    have y0 := z 0
    have y1 := z 1
    have := uZ (aK c 0) ((aK c 0).sub (aK c 1)) s (z _) (by omega) hSm
    rw [show iG false = 1 from rfl, vH hc2, ← hsA]; exact this
  have he1 : closed = false → ag Tryz.prog 115 [eA (aK c (c.length - 1)), eA ((aK c (c.length - 1)).sub (aK c (c.length - 2))), .agg S] (mv ((cP c closed s).getD (aG c.length closed + (aG c.length closed - iG closed) + 1) ([], 0))) := fun hcf => by
    subst hcf
    have z1 := PQ.sz_sub (aK c (c.length - 1)) (aK c (c.length - 2))
    have y0 := z (c.length - 1)
    have y1 := z (c.length - 2)
    have := uZ (aK c (c.length - 1)) ((aK c (c.length - 1)).sub (aK c (c.length - 2))) s (z _) (by omega) hSm
    rw [show iG false = 1 from rfl, vI hc2, ← hsA]; exact this
  have hat : ∀ i, bU (c.map eA) ((i % c.length : Nat) : Int) = .agg (eC (aK c i)) := fun i => by
    have := f_ (l := c) (i := i % c.length) (Nat.mod_lt _ hn0)
    rw [this, ← rm, wL (Nat.mod_lt _ hn0)]
  have hat0 : ∀ i, i < c.length → bU (c.map eA) (i : Int) = .agg (eC (aK c i)) := fun i hi => by
    have := hat i
    rwa [Nat.mod_eq_of_lt hi] at this
  have hmlt : ∀ i, i % c.length < c.length := fun i => Nat.mod_lt _ hn0
  have hpf := fun k (h : k < (cP c closed s).length) => vV h
  generalize hA : cP c closed s = A at *
  generalize c.map eA = CA at *
  have wn : IntKind.i64.wrap ((c.length : Int) - 1) = (c.length : Int) - 1 := by rw [bS (by omega)]
  have u6 : ∀ p, (eC p).length = 6 := fun p => rfl
  have u7 : ∀ p, (eC p).take 6 = eC p := fun p => rfl
  obtain ⟨V, hV⟩ : ∃ V : Nat → List AV, V = fun k => (aD (A.take k)).1.map eL := ⟨_, rfl⟩
  obtain ⟨E, hE⟩ : ∃ E : Nat → Int, E = fun k => (aD (A.take k)).2 := ⟨_, rfl⟩
  have hVr : ∀ k, roL (V k) := fun k => by rw [hV]; exact jL _
  have hVl : ∀ k, (V k).length ≤ 34 := fun k => by
    have := j6 (A.take k)
    have h2 : (A.take k).length ≤ A.length := by rw [List.length_take]; omega
    rw [hV, List.length_map]; omega
  have hV0 : V 0 = [] := by rw [hV]; rfl
  have hE0 : E 0 = 0 := by rw [hE]; rfl
  have hpf : ∀ k, k < A.length → xZ (V k) (E k) (A.getD k ([], 0)).1 (A.getD k ([], 0)).2 = V (k + 1) ∧ CI (E k) (A.getD k ([], 0)).2 = E (k + 1) := fun k hk => by rw [hV, hE]; exact hpf k hk
  have hsd : aG c.length closed ≤ 16 ∧ 1 ≤ aG c.length closed := by unfold aG; split <;> omega
  generalize hnn : aG c.length closed = nn at *
  simp -implicitDefEqProofs [go_sem, b9, b1, wn, hCl, a9, b]
  refine ⟨fun hc => ?_, fun hc => ?_⟩
  all_goals
    have hnv : (if closed = true then (c.length : Int) else (c.length : Int) - 1) = nn := by
      rw [← hnn]; unfold aG; rw [hc]; simp only [Bool.false_eq_true, if_false, if_true] <;> omega
    simp only [hc, Bool.false_eq_true, if_false, if_true] at hnv
    refine ap 50 (α := {i : Nat // i ≤ nn}) (fun i => [(3, .ptr 1 0 0), (4, .ptr 2 0 0), (5, .ptr 41 0 0), (6, .sl 6 false CA), (7, .int .i64 c.length), (8, .ptr 49 0 0), (10, .int .i64 nn), (11, .int .i64 i.1)])
      (fun i => HJ S CA closed (V i.1) (E i.1)) (fun i => nn - i.1) ⟨0, Nat.zero_le _⟩ [] (by simp) (fun _ _ _ _ h => h) (by simp) (by simp -implicitDefEqProofs [go_sem, hnv, renL_ro (nm []) _ rCl, cloL_ro (n := 50) _ rCl]) (by simp -implicitDefEqProofs [go_sem, HJ, hV0, hE0, renL_ro (nm []) _ rCl, cloL_ro (n := 50) _ rCl, renL_ro (nm []) _ q5, cloL_ro (n := 50) _ q5]) fun ⟨i, hi⟩ => ?_
    have H := JI S CA closed (V i) (E i)
    generalize hp 50 (HJ S CA closed (V i) (E i)) = F at H ⊢
    by_cases a10 : i < nn
    · have b10 : (i : Int) < nn := by omega
      have k6 := hbody i a10
      have hin : i < c.length := by
        have : nn ≤ c.length := by rw [← hnn]; unfold aG; split <;> omega
        omega
      have gi := hat0 i hin
      have gj := hat (i + 1)
      have hjl := hmlt (i + 1)
      have hpi := hpf i (by omega)
      have es := wS i (by omega)
      have e2 : Int.tmod ((i : Int) + 1) (c.length : Int) = ((i + 1) % c.length : Nat) := by rw [Int.tmod_eq_emod_of_nonneg (by omega)]; rfl
      have w1 := wT i (by omega)
      have hp0 : ¬ (c.length : Int) = 0 := by omega
      generalize A.getD i ([], 0) = x at *
      unfold mv at k6
      rw [aP, aP] at k6
      generalize aK c i = p at *
      generalize aK c (i + 1) = q at *
      generalize (i + 1) % c.length = j at *
      simp -implicitDefEqProofs [go_sem, b10]
      refine aU (by kernel_rfl) ?_
      simp -implicitDefEqProofs [go_sem, H.f1, hCl, hin, hjl, gi, gj, w1, e2, u6, u7, q1, q3, a9]
      refine ao _ k6 (by simp [go_sem, q5]) ?_
      simp -implicitDefEqProofs [go_sem]
      refine rK (S := S) (CL := CA) (closed := closed) (V := V i) (e := E i) (a := 3) ⟨by simp -implicitDefEqProofs [go_sem, H.f1], by simp -implicitDefEqProofs [go_sem, H.f2], by simp -implicitDefEqProofs [go_sem, H.f41], by simp -implicitDefEqProofs [go_sem, H.f49], fun h => ?_, by omega⟩ (by have := hVl i; omega) x hpi _ fun a' f' n' H' => ?_
      · obtain ⟨g1, g2, g3, g4, g5, g6⟩ := H.fa h
        exact ⟨by simp -implicitDefEqProofs [go_sem, g1], g2, g3, g4, g5, by omega⟩
      simp -implicitDefEqProofs [go_sem, es]
      have hh := H'.hold q5 rCl (hVr (i + 1))
      exact ae ⟨i + 1, a10⟩ (by simp only; omega) [(3, a')] (by simp) hh.1 (by simp) (by simp -implicitDefEqProofs [go_sem, es, renL_ro (nm [(3, a')]) _ rCl, cloL_ro (n := 50) _ rCl]) hh.2
    have b10 : ¬ (i : Int) < nn := by omega
    have hii : i = nn := by omega
    have hff := congrArg iG hc
    have ff1 : iG false = 1 := rfl
    have ff0 : iG true = 0 := rfl
    simp -implicitDefEqProofs [go_sem, b10]
    clear b10
    obtain ⟨kq, hkq⟩ : ∃ kq : Nat → Nat, kq = fun j => nn + min (j - iG closed) (nn - iG closed) := ⟨_, rfl⟩
    have hkq0 : kq 0 = nn := by rw [hkq]; simp only [Nat.zero_sub, Nat.zero_min, Nat.add_zero]
    refine ap 50 (α := {j : Nat // j ≤ c.length}) (fun j => [(3, .ptr 1 0 0), (4, .ptr 2 0 0), (5, .ptr 41 0 0), (6, .sl 6 false CA), (7, .int .i64 c.length), (8, .ptr 49 0 0), (10, .int .i64 nn), (13, .int .i64 j.1)])
      (fun j => HJ S CA closed (V (kq j.1)) (E (kq j.1))) (fun j => c.length - j.1) ⟨0, Nat.zero_le _⟩ [(3, 3)] (by simp) (by
        have hh := (H.hold q5 rCl (hVr i)).1
        simp only [hkq0]
        rwa [hii] at hh) (by simp) (by simp -implicitDefEqProofs [go_sem, renL_ro (nm [(3, 3)]) _ rCl, cloL_ro (n := 50) _ rCl]) (by
        have hh := (H.hold q5 rCl (hVr i)).2
        simp only [hkq0]
        rwa [hii] at hh) fun ⟨j, hj⟩ => ?_
    clear H hii hi
    have H := JI S CA closed (V (kq j)) (E (kq j))
    have hh := H.hold q5 rCl (hVr (kq j))
    generalize hp 50 (HJ S CA closed (V (kq j)) (E (kq j))) = F at H hh ⊢
    by_cases a11 : j < c.length
    · have b11 : (j : Int) < c.length := by omega
      have es := wS j (by omega)
      by_cases sk : closed = false ∧ (j = 0 ∨ j = c.length - 1)
      · have hk : kq (j + 1) = kq j := by
          rw [hc] at sk
          simp only [hkq]
          have := sk.1
          have : nn = c.length - 1 := by
            first
            | (exfalso; exact absurd sk.1 (by decide))
            | omega
          first
          | (exfalso; exact absurd sk.1 (by decide))
          | (rw [hff, ff1]; rcases sk.2 with h | h <;> omega)
        rw [← hk] at hh
        first
        | (exfalso; rw [hc] at sk; exact absurd sk.1 (by decide))
        | (by_cases j0 : j = 0
           · simp -implicitDefEqProofs [go_sem, b11, H.f41, hc, eq_true j0, es]
             rw [hc] at hh
             exact ae ⟨j + 1, by omega⟩ (by simp only; omega) [(3, 3)] (by simp) hh.1 (by simp) (by simp -implicitDefEqProofs [go_sem, es, renL_ro (nm [(3, 3)]) _ rCl, cloL_ro (n := 50) _ rCl]) hh.2
           · have j1 : (j : Int) = (c.length : Int) - 1 := by rcases sk.2 with h | h <;> omega
             simp -implicitDefEqProofs [go_sem, b11, H.f41, hc, eq_false j0, wn, eq_true j1, es]
             rw [hc] at hh
             exact ae ⟨j + 1, by omega⟩ (by simp only; omega) [(3, 3)] (by simp) hh.1 (by simp) (by simp -implicitDefEqProofs [go_sem, es, renL_ro (nm [(3, 3)]) _ rCl, cloL_ro (n := 50) _ rCl]) hh.2)
      · have hk : kq (j + 1) = kq j + 1 := by
          simp only [hkq]
          rw [hff]
          have : closed = false → j ≠ 0 ∧ j ≠ c.length - 1 := fun h => ⟨fun h2 => sk ⟨h, .inl h2⟩, fun h2 => sk ⟨h, .inr h2⟩⟩
          have hnc : nn = if closed = true then c.length else c.length - 1 := by rw [← hnn]; rfl
          rw [hc] at this hnc
          first
          | (rw [ff0]; simp only [if_true] at hnc; omega)
          | (rw [ff1]; simp only [Bool.false_eq_true, if_false] at hnc; have := this rfl; omega)
        have hlow : iG closed ≤ j ∧ j < nn ∧ kq j = nn + (j - iG closed) := by
          simp only [hkq]
          have : closed = false → j ≠ 0 ∧ j ≠ c.length - 1 := fun h => ⟨fun h2 => sk ⟨h, .inl h2⟩, fun h2 => sk ⟨h, .inr h2⟩⟩
          have hnc : nn = if closed = true then c.length else c.length - 1 := by rw [← hnn]; rfl
          rw [hff]
          rw [hc] at this hnc
          first
          | (rw [ff0]; simp only [if_true] at hnc; omega)
          | (rw [ff1]; simp only [Bool.false_eq_true, if_false] at hnc; have := this rfl; omega)
        have k6 := hjoin j hlow.1 hlow.2.1
        have hpi := hpf (kq j) (by rw [hlow.2.2, hlen, hff]; first | (rw [ff0]; omega) | (rw [ff1]; omega))
        rw [← hlow.2.2] at k6
        rw [← hk] at hpi
        have g0 := hat0 j a11
        have g1 := hat (j + c.length - 1)
        have g2 := hat (j + 1)
        have l1 := hmlt (j + c.length - 1)
        have l2 := hmlt (j + 1)
        have s1' := dr (aK c j) (aK c (j + c.length - 1)) (by have := z j; omega) (by have := z (j + c.length - 1); omega)
        have s2' := dr (aK c (j + 1)) (aK c j) (by have := z (j + 1); omega) (by have := z j; omega)
        have w1 := wT j (by omega)
        have w2 : IntKind.i64.wrap ((j : Int) + c.length) = (j : Int) + c.length := by rw [bS (by omega)]
        have w3 : IntKind.i64.wrap ((j : Int) + c.length - 1) = (j : Int) + c.length - 1 := by rw [bS (by omega)]
        have e2 : Int.tmod ((j : Int) + 1) (c.length : Int) = ((j + 1) % c.length : Nat) := by rw [Int.tmod_eq_emod_of_nonneg (by omega)]; rfl
        have e3 : Int.tmod ((j : Int) + c.length - 1) (c.length : Int) = ((j + c.length - 1) % c.length : Nat) := by
          rw [show (j : Int) + c.length - 1 = ((j + c.length - 1 : Nat) : Int) by omega, Int.tmod_eq_emod_of_nonneg (by omega)]; rfl
        generalize A.getD (kq j) ([], 0) = x at *
        unfold mv at k6
        simp only [aP] at k6 s1' s2'
        generalize (aK c j).sub (aK c (j + c.length - 1)) = u at *
        generalize (aK c (j + 1)).sub (aK c j) = v at *
        generalize aK c j = p0 at *
        generalize aK c (j + c.length - 1) = p1 at *
        generalize aK c (j + 1) = p2 at *
        generalize (j + 1) % c.length = m2 at *
        generalize (j + c.length - 1) % c.length = m1 at *
        have j0 : closed = false → ¬ j = 0 := fun h h2 => sk ⟨h, .inl h2⟩
        have j1 : closed = false → ¬ (j : Int) = (c.length : Int) - 1 := fun h h2 => sk ⟨h, .inr (by omega)⟩
        first
        | (have j0 := j0 hc
           have j1 := j1 hc
           simp -implicitDefEqProofs [go_sem, b11, H.f41, hc, eq_false j0, wn, eq_false j1])
        | simp -implicitDefEqProofs [go_sem, b11, H.f41, hc]
        refine aU (by kernel_rfl) ?_
        simp -implicitDefEqProofs [go_sem, H.f1, hCl, a11, l1, l2, g0, g1, g2, w1, w2, w3, e2, e3, u6, u7, q1, q3, a9]
        refine aa s1' ?_
        simp -implicitDefEqProofs [go_sem, H.f1, hCl, a11, l1, l2, g0, g1, g2, w1, w2, w3, e2, e3, u6, u7, q1, q3, a9]
        refine aa s2' ?_
        simp -implicitDefEqProofs [go_sem, H.f1, q1, q3]
        refine ao _ k6 (by simp [go_sem, q5]) ?_
        simp -implicitDefEqProofs [go_sem]
        refine rK (S := S) (CL := CA) (closed := closed) (V := V (kq j)) (e := E (kq j)) (a := 3) ⟨by simp -implicitDefEqProofs [go_sem, H.f1], by simp -implicitDefEqProofs [go_sem, H.f2], by simp -implicitDefEqProofs [go_sem, H.f41], by simp -implicitDefEqProofs [go_sem, H.f49], fun h => ?_, by omega⟩ (by have := hVl (kq j); omega) x hpi _ fun a' f' n' H' => ?_
        · obtain ⟨g1, g2, g3, g4, g5, g6⟩ := H.fa h
          exact ⟨by simp -implicitDefEqProofs [go_sem, g1], g2, g3, g4, g5, by omega⟩
        simp -implicitDefEqProofs [go_sem, es]
        have hh := H'.hold q5 rCl (hVr (kq (j + 1)))
        rw [hc] at hh
        exact ae ⟨j + 1, by omega⟩ (by simp only; omega) [(3, a')] (by simp) hh.1 (by simp) (by simp -implicitDefEqProofs [go_sem, es, renL_ro (nm [(3, a')]) _ rCl, cloL_ro (n := 50) _ rCl]) hh.2
    have b11 : ¬ (j : Int) < c.length := by omega
    have hjj : j = c.length := by omega
    have kA : A.length = nn + (nn - iG closed) + if closed = true then 0 else 2 := hlen
    first
    | (have kA2 : kq j = A.length := by
         have hnc : nn = if closed = true then c.length else c.length - 1 := by rw [← hnn]; rfl
         rw [hc] at hnc kA
         simp only [if_true] at hnc kA
         simp only [hkq]
         rw [hff, ff0]
         rw [ff0] at kA
         omega
       rw [kA2] at H
       have HH := H
       simp -implicitDefEqProofs [go_sem, b11, H.f41, hc])
    | (have kA2 : kq j = nn + (nn - iG closed) ∧ A.length = nn + (nn - iG closed) + 1 + 1 := by
         have hnc : nn = if closed = true then c.length else c.length - 1 := by rw [← hnn]; rfl
         rw [hc] at hnc kA
         simp only [Bool.false_eq_true, if_false] at hnc kA
         simp only [hkq]
         rw [hff, ff1]
         rw [ff1] at kA
         omega
       rw [kA2.1] at H
       have k6 := he0 hc
       have k7 := he1 hc
       have hp6 := hpf (nn + (nn - iG closed)) (by omega)
       have hp7 := hpf (nn + (nn - iG closed) + 1) (by omega)
       have g0 := hat0 0 hn0
       have g1 := hat0 1 (by omega)
       have g2 := hat0 (c.length - 1) (by omega)
       have g3 := hat0 (c.length - 2) (by omega)
       rw [show ((0 : Nat) : Int) = 0 from rfl] at g0
       rw [show ((1 : Nat) : Int) = 1 from rfl] at g1
       rw [show ((c.length - 1 : Nat) : Int) = (c.length : Int) - 1 by omega] at g2
       rw [show ((c.length - 2 : Nat) : Int) = (c.length : Int) - 2 by omega] at g3
       have s1' := dr (aK c 0) (aK c 1) (by have := z 0; omega) (by have := z 1; omega)
       have s2' := dr (aK c (c.length - 1)) (aK c (c.length - 2)) (by have := z (c.length - 1); omega) (by have := z (c.length - 2); omega)
       have w2 : IntKind.i64.wrap ((c.length : Int) - 2) = (c.length : Int) - 2 := by rw [bS (by omega)]
       generalize A.getD (nn + (nn - iG closed)) ([], 0) = x6 at *
       generalize A.getD (nn + (nn - iG closed) + 1) ([], 0) = x7 at *
       unfold mv at k6 k7
       simp only [aP] at k6 k7 s1' s2'
       generalize (aK c 0).sub (aK c 1) = u at *
       generalize (aK c (c.length - 1)).sub (aK c (c.length - 2)) = v at *
       generalize aK c 0 = p0 at *
       generalize aK c (c.length - 1) = p2 at *
       generalize aK c (c.length - 2) = p3 at *
       generalize aK c 1 = p1 at *
       simp -implicitDefEqProofs [go_sem, b11, H.f41, hc]
       refine aU (by kernel_rfl) ?_
       have n1 : (1 : Int) < c.length := by omega
       simp -implicitDefEqProofs [go_sem, H.f1, hCl, g0, g1, u6, u7, q1, q3, a9, n1, hn0]
       refine aa s1' ?_
       simp -implicitDefEqProofs [go_sem, H.f1, q1, q3]
       refine ao _ k6 (by simp [go_sem, q5]) ?_
       simp -implicitDefEqProofs [go_sem]
       refine rK (S := S) (CL := CA) (closed := closed) (V := V (nn + (nn - iG closed))) (e := E (nn + (nn - iG closed))) (a := 3) ⟨by simp -implicitDefEqProofs [go_sem, H.f1], by simp -implicitDefEqProofs [go_sem, H.f2], by simp -implicitDefEqProofs [go_sem, H.f41], by simp -implicitDefEqProofs [go_sem, H.f49], fun h => ?_, by omega⟩ (by have := hVl (nn + (nn - iG closed)); omega) x6 hp6 _ fun a' f' n' H' => ?_
       · obtain ⟨g1, g2, g3, g4, g5, g6⟩ := H.fa h
         exact ⟨by simp -implicitDefEqProofs [go_sem, g1], g2, g3, g4, g5, by omega⟩
       simp -implicitDefEqProofs [go_sem]
       refine aU (by kernel_rfl) ?_
       have n2 : (1 : Int) ≤ c.length := by omega
       have n3 : (c.length : Int) - 1 < c.length := by omega
       have n4 : (2 : Int) ≤ c.length := by omega
       have n5 : (c.length : Int) - 2 < c.length := by omega
       simp -implicitDefEqProofs [go_sem, H'.f1, hCl, g2, g3, u6, u7, q1, q3, a9, wn, w2, n2, n3, n4, n5]
       have m50 := H'.n50
       have m1 : ¬ n' ≤ 1 := by omega
       have m2 : ¬ n' ≤ 2 := by omega
       have m41 : ¬ n' ≤ 41 := by omega
       have m49 : ¬ n' ≤ 49 := by omega
       refine aa s2' ?_
       simp -implicitDefEqProofs [go_sem, H'.f1, q1, q3, m1]
       refine ao _ k7 (by simp [go_sem, q5]) ?_
       simp -implicitDefEqProofs [go_sem]
       refine rK (S := S) (CL := CA) (closed := closed) (V := V (nn + (nn - iG closed) + 1)) (e := E (nn + (nn - iG closed) + 1)) (a := a') ⟨?_, ?_, ?_, ?_, fun h => ?_, by omega⟩ (by have := hVl (nn + (nn - iG closed) + 1); omega) x7 hp7 _ fun a2 f2 n2' HH => ?_
       · simp -implicitDefEqProofs [go_sem, H'.f1, show ¬ 1 = n' + 18 by omega]
       · simp -implicitDefEqProofs [go_sem, H'.f2, show ¬ 2 = n' + 18 by omega]
       · simp -implicitDefEqProofs [go_sem, H'.f41, show ¬ 41 = n' + 18 by omega]
       · simp -implicitDefEqProofs [go_sem, H'.f49, show ¬ 49 = n' + 18 by omega]
       · obtain ⟨g1, g2, g3, g4, g5, g6⟩ := H'.fa h
         exact ⟨by simp -implicitDefEqProofs [go_sem, g1, show ¬ a' = n' + 18 by omega], g2, g3, g4, g5, by omega⟩
       rw [← kA2.2] at HH
       simp -implicitDefEqProofs [go_sem])
    have HHs := HH.hold q5 rCl (hVr A.length)
    clear HH H
    have hXf : X = aD A := hX'
    have hVX : V A.length = X.1.map eL := by rw [hV, hXf]; simp only [List.take_length]
    have hEX : E A.length = X.2 := by rw [hE, hXf]; simp only [List.take_length]
    have hfl : X.1.length ≤ 34 := by have := j6 A; rw [hXf]; omega
    have htot : gH X.1 ≤ 16384 * A.length := by rw [hXf]; exact C5 A fun y hy _ => (hfine y hy).1
    have htk : ∀ i, gH (X.1.take i) ≤ gH X.1 := fun i => by
      have := congrArg gH (List.take_append_drop i X.1)
      unfold gH at this ⊢
      rw [List.map_append, List.sum_append] at this
      omega
    have hts : ∀ i (h : i < X.1.length), gH (X.1.take (i + 1)) = gH (X.1.take i) + X.1[i].length := fun i h => by
      rw [List.take_succ_eq_append_getElem h, Bc]
    rw [hVX, hEX] at HHs
    refine ap 50 (α := {i : Nat // i ≤ X.1.length}) (fun i => [(4, .ptr 2 0 0), (8, .ptr 49 0 0), (17, .int .i64 (gH (X.1.take i.1) : Nat)), (18, .int .i64 i.1)])
      (fun _ => HJ S CA closed (X.1.map eL) X.2) (fun i => X.1.length - i.1) ⟨0, Nat.zero_le _⟩ [(3, _)] (by simp) HHs.1 (by simp) (by simp -implicitDefEqProofs [go_sem, gH]) HHs.2 fun ⟨i, hi⟩ => ?_
    have H := JI S CA closed (X.1.map eL) X.2
    generalize hp 50 (HJ S CA closed (X.1.map eL) X.2) = F at H ⊢
    have hXl : (X.1.map eL).length = X.1.length := by simp
    have hXr := jL X.1
    by_cases a12 : i < X.1.length
    · have b12 : (i : Int) < X.1.length := by omega
      have gi : ∀ h : i < (X.1.map eL).length, (X.1.map eL)[i] = .sl 6 false (X.1[i].map eA) := fun h => by rw [List.getElem_map]; rfl
      have hne : X.1.map eL ≠ [] := fun h => by rw [h] at hXl; simp only [List.length_nil] at hXl; omega
      obtain ⟨f3, _⟩ := H.fa hne
      have f49 := H.f49
      rw [aV hne] at f49
      have hs1 := hts i a12
      have hk1 := htk (i + 1)
      have es := wS i (by omega)
      generalize X.1.map eL = VX at *
      have el : (X.1[i].map eA).length = X.1[i].length := by simp
      have wt : IntKind.i64.wrap ((gH (X.1.take i) : Int) + X.1[i].length) = (gH (X.1.take (i + 1)) : Nat) := by rw [bS (by omega)]; omega
      have hh := (JI S CA closed VX X.2).hold q5 rCl hXr
      have hh2 := H.hold q5 rCl hXr
      generalize X.1[i].map eA = xA at *
      simp -implicitDefEqProofs [go_sem, f49, b12, a12, hXl, f3, gi, el, wt, es]
      exact ae ⟨i + 1, a12⟩ (by simp only; omega) [(3, 3)] (by simp) hh2.1 (by simp) (by simp -implicitDefEqProofs [go_sem, es, wt]) hh2.2
    · have b12 : ¬ (i : Int) < X.1.length := by omega
      have hii : i = X.1.length := by omega
      have hlim : ¬ (1048576 : Int) < (gH (X.1.take i) : Nat) := by have := htk i; omega
      have hlim2 : gH (X.1.take i) ≤ 1048576 := by have := htk i; omega
      simp -implicitDefEqProofs [go_sem, H.f49, H.f2, b12, hXl, hlim, hlim2, aL]
      refine D8 fun h => ?_
      obtain ⟨h5, h6, h7, _⟩ := H.fa h
      simp -implicitDefEqProofs [go_sem, h5, h7]
theorem vB (l:List Nat) (hl:cg l):ag Tryz.prog 234 [nA l] (nA l):=by
 unfold cg at hl
 refine ag.of_ca (gv _) (Cg Tryz.func234 rfl [.tmp 2] rfl ?_)
 by_cases h0:l=[]
 ·subst h0
  simp -implicitDefEqProofs [go_sem]
  exact Wk.refl _
 ·simp -implicitDefEqProofs [go_sem,h0,dS]
  exact ⟨by omega,Wk.refl _⟩
theorem Fq (s:Bool) (l:List Nat) (hl:cg l):ag Tryz.prog 233 [.agg [.bool s,nA l]] (.agg [.bool s,nA l]):=by
 have k:=vB l hl
 refine Pg Tryz.func233 rfl [.cell 2 25] rfl (by simp -implicitDefEqProofs [go_sem]) ?_
 simp -implicitDefEqProofs [go_sem]
 refine aa k ?_
 simp -implicitDefEqProofs [go_sem,aL]
theorem vC (z:RQ) (hz:z.In 4294967296):ag Tryz.prog 175 [z.av] z.av:=by
 have k1:=Fq z.neg z.p (by have:=hz.lp; unfold cg; omega)
 have k2:=vB z.q (by have:=hz.lq; unfold cg; omega)
 refine Pg Tryz.func175 rfl [.cell 2 27] rfl (wc z) ?_
 unfold RQ.av
 simp -implicitDefEqProofs [go_sem]
 refine aa k1 ?_
 simp -implicitDefEqProofs [go_sem]
 refine aa k2 ?_
 simp -implicitDefEqProofs [go_sem,aL]
theorem HO (p:PR) (hp:p.In 4294967296):ag Tryz.prog 104 [p.av] p.av:=by
 have k1:=vC p.x hp.x
 have k2:=vC p.y hp.y
 refine Pg Tryz.func104 rfl [.cell 2 72] rfl (ju p) ?_
 unfold PR.av
 unfold RQ.av at k1 k2
 simp -implicitDefEqProofs [go_sem]
 refine aa k1 ?_
 simp -implicitDefEqProofs [go_sem]
 refine aa k2 ?_
 simp -implicitDefEqProofs [go_sem,aL]
theorem Cd (l:List PR) (hl:l.length≤1048576) (hp:∀p∈l,p.In 4294967296):ag Tryz.prog 39 [fK l] (fK l):=by
 refine ag.of_ca (jS _) (Cg Tryz.func39 rfl [.tmp 2] rfl ?_)
 have hPl:(l.map PR.av).length=l.length:=by simp
 have hg0:∀i (h:i<l.length),bU (l.map PR.av) (i:Int) = .agg l[i].cs:=fun i h=>dM h
 have hVg:∀i (h:i<l.length) (h':i<(l.map PR.av).length),(l.map PR.av)[i] = .agg l[i].cs:=fun i h h'=>by rw [List.getElem_map]; rfl
 have hr:=iR l
 have hVr:∀i,roL ((l.map PR.av).take i):=fun i=>bV hr
 unfold fK
 generalize l.map PR.av=V at *
 simp -implicitDefEqProofs [go_sem]
 refine ap 2 (α:={i:Nat // i≤l.length}) (fun i=>[(0,.sl 6 false V),(3,di 6 1 (V.take i.1)),(4,.int .i64 i.1)]) (fun i=>cR 6 1 (V.take i.1)) (fun i=>l.length-i.1) ⟨0,Nat.zero_le _⟩ [] (by simp) (fun _ _ _ _ h=>h) (by simp) (by simp -implicitDefEqProofs [go_sem,renL_ro (nm []) _ hr,cloL_ro (n:=2) _ hr]) (by simp -implicitDefEqProofs [go_sem]) fun ⟨i,hi⟩=>?_
 have hTl:(V.take i).length=i:=by rw [List.length_take]; omega
 by_cases a:i<l.length
 ·have a1:(i:Int)<l.length:=by omega
  have gi:=hg0 i a
  have es:=wS i (by omega)
  have k1:=HO l[i] (hp _ (List.getElem_mem a))
  have hsc:V.take (i+1)=V.take i++[.agg l[i].cs]:=by
   rw [List.take_succ_eq_append_getElem (by omega),hVg i a (by omega)]
  have hr1:=hVr (i+1)
  rw [hsc] at hr1
  have u6:l[i].cs.length=6:=rfl
  have u7:l[i].cs.take 6=l[i].cs:=rfl
  have u8:l[i].cs.drop 6=[]:=rfl
  have u9:=l[i].ro_cs
  rw [PR.av_cs] at k1
  have r1:=renL_ro (nm [(1,3)]) _ hr1
  have r2:=cloL_ro (n:=2) _ hr1
  generalize l[i].cs=x at *
  simp -implicitDefEqProofs [go_sem,a1,a,hPl,gi,u6,u7,u8]
  refine ah _ k1 (by simp [go_sem,u9]) ?_
  simp -implicitDefEqProofs [go_sem,u6,u7,u8]
  have hmin:min i V.length=i:=by omega
  refine aI (.inl rfl) (by omega) (by omega) (by simp -implicitDefEqProofs [go_sem,u9]) (by simp [hTl,hmin]<;>omega) (fun h=>by simp -implicitDefEqProofs [go_sem,aC h]) ?_
  simp -implicitDefEqProofs [go_sem,es,hmin]
  exact ae ⟨i+1,a⟩ (by simp only; omega) [(1,3)] (by simp) (by simp only [hsc,bP]; simp [nm]) (by simp) (by simp only [hsc,eJ]; simp -implicitDefEqProofs [go_sem,hTl,hmin,renL_ro (nm [(1,3)]) _ hr,cloL_ro (n:=2) _ hr]) (by simp only [hsc,bP]; simp -implicitDefEqProofs [go_sem,r1,r2])
 ·have hii:i=l.length:=by omega
  have a1:¬(i:Int)<l.length:=by omega
  have hTV:V.take i=V:=List.take_of_length_le (by omega)
  rw [hTV]
  simp -implicitDefEqProofs [go_sem,a1,hPl]
  exact fS hr (fun h=>by simp -implicitDefEqProofs [go_sem,aC h])
theorem Fl (s:Bool) (p:List Nat) (h:cg p):ag Tryz.prog 221 [.agg [.bool s,nA p],.agg [.bool s,nA p]] (.bool true):=by
 have hn:=mJ p h
 refine Pg Tryz.func221 rfl [.tmp 4] rfl (by simp -implicitDefEqProofs [go_sem]) ?_
 simp -implicitDefEqProofs [go_sem]
 refine ac hn ?_
 simp -implicitDefEqProofs [go_sem]
theorem vX (z:RQ) (hz:z.In 4294967296):ag Tryz.prog 157 [z.av,z.av] (.bool true):=by
 have h1:=Fl z.neg z.p (by have:=hz.lp; unfold cg; omega)
 have h2:=mJ z.q (by have:=hz.lq; unfold cg; omega)
 refine Pg Tryz.func157 rfl [.tmp 4] rfl (by simp -implicitDefEqProofs [go_sem]) ?_
 unfold RQ.av
 simp -implicitDefEqProofs [go_sem]
 refine ac h1 ?_
 simp -implicitDefEqProofs [go_sem]
 refine ac h2 ?_
 simp -implicitDefEqProofs [go_sem]
theorem Ih (p:PR) (hp:p.In 4294967296):ag Tryz.prog 80 [p.av,p.av] (.bool true):=by
 have h1:=vX p.x hp.x
 have h2:=vX p.y hp.y
 refine Pg Tryz.func80 rfl [.tmp 4] rfl (by simp -implicitDefEqProofs [go_sem]) ?_
 unfold PR.av
 unfold RQ.av at h1 h2
 simp -implicitDefEqProofs [go_sem]
 refine ac h1 ?_
 simp -implicitDefEqProofs [go_sem]
 refine ac h2 ?_
 simp -implicitDefEqProofs [go_sem]
theorem Fy (l:List PR) (hl:l.length≤1048576) (hp:∀p∈l,p.In 4294967296):ag Tryz.prog 45 [fK l,fK l] (.bool true):=by
 refine Pg Tryz.func45 rfl [.tmp 4] rfl (by simp -implicitDefEqProofs [go_sem]) ?_
 have hPl:(l.map PR.av).length=l.length:=by simp
 have hg0:∀i (h:i<l.length),bU (l.map PR.av) (i:Int) = .agg l[i].cs:=fun i h=>dM h
 have hr:=iR l
 unfold fK
 generalize l.map PR.av=V at *
 simp -implicitDefEqProofs [go_sem]
 refine ap 0 (α:={i:Nat // i≤l.length}) (fun i=>[(0,.sl 6 false V),(1,.sl 6 false V),(5,.int .i64 i.1)]) (fun i=>[]) (fun i=>l.length-i.1) ⟨0,by omega⟩ [] (by simp) (by simp) (by simp) (by simp -implicitDefEqProofs [go_sem,renL_ro (nm []) _ hr,cloL_ro (n:=0) _ hr]) (by simp -implicitDefEqProofs [go_sem]) fun ⟨i,hi⟩=>?_
 by_cases a:i<l.length
 ·have a1:(i:Int)<l.length:=by omega
  have gi:=hg0 i a
  have es:=wS i (by omega)
  have k1:=Ih l[i] (hp _ (List.getElem_mem a))
  rw [PR.av_cs] at k1
  have u6:l[i].cs.length=6:=rfl
  have u7:l[i].cs.take 6=l[i].cs:=rfl
  have u9:=l[i].ro_cs
  generalize l[i].cs=x at *
  simp -implicitDefEqProofs [go_sem,a1,a,hPl,gi,u6,u7]
  refine ao _ k1 (by simp [go_sem,u9]) ?_
  simp -implicitDefEqProofs [go_sem,es]
  exact ae ⟨i+1,by omega⟩ (by simp only; omega) [] (by simp) (by simp) (by simp) (by simp -implicitDefEqProofs [go_sem,renL_ro (nm []) _ hr,cloL_ro (n:=0) _ hr]) (by simp -implicitDefEqProofs [go_sem])
 ·have a1:¬(i:Int)<l.length:=by omega
  simp -implicitDefEqProofs [go_sem,a1,hPl]
theorem pk (l:List PR) (closed:Bool) (s:SR) (hl:l.length≤9223372036854775807) (hp:∀p∈l,p.Lm) (hs:s.Lm) (hi:s.In 1048576):ag Tryz.prog 8 [.agg [fK l,.bool closed],s.av] (.bool true):=by
 obtain ⟨b,kl,kb⟩:=iK l closed s hl hp hs
 have kw:=fP
 have rpr:=jS l
 have sro:=s.ro_cs
 have hsav:s.av = .agg s.cs:=rfl
 have slen:s.cs.length=11:=rfl
 have stk:s.cs.take 11=s.cs:=rfl
 rw [hsav] at kl ⊢
 refine ag.of_goz true lZ Tryz.func8 rfl (rs:=[.tmp 4]) rfl (by kernel_rfl) (by simp -implicitDefEqProofs [go_sem]) ?_
 cases b with
 | false =>
  clear kb
  generalize fK l=PL at *
  generalize s.cs=S at *
  simp -implicitDefEqProofs [go_sem,rpr,sro,slen,stk]
  refine ah _ kl (by simp [go_sem,rpr,sro]) ?_
  simp -implicitDefEqProofs [go_sem]
  refine ac kw ?_
  simp -implicitDefEqProofs [go_sem]
 | true =>
 have hL:=kb rfl
 clear kb
 have kp:=eE l closed s (by have:=hL.len; omega) hL.pts hL.nigh hi hL.sty
 have kc:=Cd l (by have:=hL.len; omega) (fun p h=>(hL.pts p h).mono)
 have ks:=Fy l (by have:=hL.len; omega) (fun p h=>(hL.pts p h).mono)
 have ki:=kR l closed (by have:=hL.len; omega) fun p hp=>(hL.pts p hp).mono
 have kst:=ES s hi
 have kr:=FQ (l.map PR.val) closed s (by rw [List.length_map]; have:=hL.len; omega) (fun p h=>by
  obtain ⟨q,hq,rfl⟩:=List.mem_map.1 h
  exact (hL.pts q hq).sz) hL.nigh hi (fun h=>hL.sty fun e=>h (by rw [e]; rfl))
 have hF:=hL.facts closed _ rfl
 generalize c9 (l.map PR.val) closed s=X at *
 have kq:=oC X.1 (by have:=hF.len; omega) (fun x hx=>by have:=(hF.fine x hx).1; omega) (fun x hx p hp=>by have:=(hF.fine x hx).2 p hp; omega)
 have ke:=qh X.1 (by have:=hF.len; omega) (fun x hx=>⟨by have:=(hF.fine x hx).1; omega,fun p hp=>by have:=(hF.fine x hx).2 p hp; omega⟩)
 have eX:qO X = .tup [yq X.1,.int .i64 X.2]:=rfl
 have eY:Ms X = .agg [yp X.1,.int .i64 X.2]:=rfl
 rw [eX] at kp
 rw [eY] at kr
 have rX:=qf X.1
 have rE:=Ix X.1
 have rLi:=jt (l.map PR.val) closed
 have eP:AV.sl 1 false (X.1.map pL)=yq X.1:=rfl
 have eP':AA X.1=yq X.1:=rfl
 have eQ:AV.sl 1 false (X.1.map eL)=yp X.1:=rfl
 rw [eP] at ke
 rw [eP'] at kq
 rw [hsav] at kp kst
 have rst:ro (uh s):=by unfold uh; simp only [ro]; exact gw _ _ _ _ _
 generalize s.cs=S at *
 generalize uh s=ST at *
 generalize yT (l.map PR.val) closed=EI at *
 generalize yq X.1=PP at *
 generalize yp X.1=EL at *
 generalize hPL:fK l=PL at *
 simp -implicitDefEqProofs [go_sem,rpr,sro,slen,stk]
 refine ah _ kl (by simp [go_sem,rpr,sro]) ?_
 simp -implicitDefEqProofs [go_sem]
 refine aU (by kernel_rfl) ?_
 simp -implicitDefEqProofs [go_sem]
 refine ao _ kc (by simp [go_sem,rpr]) ?_
 have hPLc:∃x,PL = .sl 6 false x:=⟨l.map PR.av,by rw [←hPL]; rfl⟩
 obtain ⟨PX,hPX⟩:=hPLc
 subst hPX
 have rPX:roL PX:=by simpa only [ro] using rpr
 simp -implicitDefEqProofs [go_sem,slen,stk]
 refine ah _ kp (by simp [go_sem,rPX,sro]) ?_
 simp -implicitDefEqProofs [go_sem]
 refine aU (by kernel_rfl) ?_
 simp -implicitDefEqProofs [go_sem,slen,stk]
 refine ao _ ki (by simp [go_sem,rPX]) ?_
 simp -implicitDefEqProofs [go_sem,slen,stk]
 refine ao _ kst (by simp [go_sem,sro]) ?_
 simp -implicitDefEqProofs [go_sem]
 refine ao _ kr (by simp [go_sem,rLi,rst]) ?_
 simp -implicitDefEqProofs [go_sem]
 refine ah _ kq (by simp [go_sem,rE]) ?_
 simp -implicitDefEqProofs [go_sem]
 refine ah _ ke (by simp [go_sem,rX]) ?_
 simp -implicitDefEqProofs [go_sem]
 refine ah _ ks (by simp [go_sem,rPX]) ?_
 simp -implicitDefEqProofs [go_sem]
 refine ac kw ?_
 simp -implicitDefEqProofs [go_sem]
end Go.Proofs.YtdnmfaljidjijaaGreat
