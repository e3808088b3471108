import Derived.Test.YtdnmfaljidjijaaGreatPk02
import Derived.ProofKit
import Derived.Carry
import Derived.OpenShut
namespace Go.Proofs.YtdnmfaljidjijaaGreat
set_option maxHeartbeats 8000000
open Go Go.Proofs
set_option linter.unusedSimpArgs false
set_option linter.unusedVariables false
set_option maxRecDepth 20000
theorem AH (a:Addr) (x:Int) (w:World) (hc:w.cell? a=some (.int .u32 x)) :
 Calls Tryz.prog 256 #[.pointer (some a)] w fun e w'=>e = .returned (.bool (x != 0))∧w'=w:=by
 have hl:=run_call_load (P:=Tryz.prog) Tryz.func298 (by kernel_rfl) (by kernel_rfl) (by kernel_rfl) .u32 (by kernel_rfl) hc
 go_enter Tryz.func256,Tryz.ntmps256
 go_wp2
 refine bodyPost_ret (results_tmp rfl _ _ _) rfl ?_
 exact ⟨rfl,rfl⟩
theorem vI {f:Nat→BS} {n id sz:Nat} {x:Int} {rest:List AV} {K:AV→(Nat→BS)→Nat→Prop} (hf:f id = .live sz [.agg (.int .u32 x::rest)]) (hK:K (.bool (x != 0)) f n) :
 CA Tryz.prog 256 [.ptr id 0 0] f n K:=by
 intro c vs hk hfr hl
 simp only [Rl] at hl
 obtain ⟨v1,r1,rfl,hv1,rfl⟩:=hl
 obtain ⟨e,he,hsz,hnr,hreal⟩:=hk.live id sz _ hf
 have hr:e.real=true:=by
  cases h:e.real with
  | true=>rfl
  | false=>exact absurd (hnr h) (by simp)
 simp only [Rv] at hv1
 obtain ⟨hU,b,o,hv1e,hall⟩:=hv1
 obtain ⟨_,hb,ho⟩:=hall e he
 simp only [Nat.zero_mul,Nat.add_zero] at ho
 subst hb; subst ho
 subst hv1e
 obtain ⟨p0,p1⟩:=yH hk hf he hr (j:=0) (k := .u32) (n:=x) rfl
 simp only [Nat.add_zero] at p0
 refine fw Tryz.func256 rfl (by kernel_rfl) ((AH _ x c.w p0).mono ?_)
 rintro e' w' ⟨rfl,rfl⟩
 exact ⟨_,rfl,c,_,f,n,rfl,hK,hk,by simp only [Rv],Stp.refl c,Nat.le_refl _,hfr⟩
theorem iK {f:Nat→BS} {n id sz:Nat} {rest:List AV} {K:AV→(Nat→BS)→Nat→Prop} (hf:f id=nx sz rest)
 (hfill:CA Tryz.prog 206 [.ptr id 0 0] (ap f id (fS sz rest)) n fun r f' n'=>r = .tup []∧∃rest',f' id=fS sz rest'∧K (.tup []) (ap f' id (ja sz rest')) n') :
 CA Tryz.prog 205 [.ptr id 0 0,.fn (.func 206) [.ptr id 0 0] []] f n K:=by
 refine Cg Tryz.func205 rfl [] rfl ?_
 simp -implicitDefEqProofs [go_sem]
 refine vI hf ?_
 simp -implicitDefEqProofs [go_sem]
 refine oM hf (hfill.mono ?_)
 rintro r f' n' ⟨h1,rest',h2,h3⟩
 refine ⟨h1,rest',h2,?_⟩
 simp -implicitDefEqProofs [go_sem]
 exact h3
def Kl (g:Nat) (R:List AV):AV→AV
 | .ptr id idx off=>if id=g∧idx=0 then .rp (R.drop off) else .ptr id idx off
 | a=>a
def IV (g:Nat) (j:Nat) (b:BS):BS:=if j=g then .dead else b
section
variable {P:Program} {z:Bool} {ne:Nat} {Q:AEx→St→Prop} {k:List Itm} {t:Nat→AV} {f:Nat→BS} {n:Nat}
end
attribute [go_sem] Kl IV
theorem cf (l:List Nat) (hl:bK l):aa Tryz.prog 153 [mA l] (mA (ax l)):=by
 unfold bK at hl
 refine Pg Tryz.func153 rfl [.tmp 2] rfl (BG _) ?_
 simp -implicitDefEqProofs [go_sem]
 refine aj 9 (α:={k:Nat // k≤l.length∧ax (l.take k)=ax l}) (fun k=>[(0,mA l),(3,.int .i64 k.1)]) (fun k=>[]) (fun k=>k.1) ⟨l.length,by simp⟩ [] (by simp) (by simp) (by simp) (by simp -implicitDefEqProofs [go_sem]) (by simp) fun ⟨k,hk1,hk2⟩=>?_
 have e1:0<k→IntKind.i64.wrap ((k:Int)-1)=(k-1:Nat):=fun h=>by rw [bQ (by omega)]; omega
 rcases Nat.eq_zero_or_pos k with h|h
 ·subst h
  have hz:ax l=[]:=by rw [←hk2]; rfl
  simp -implicitDefEqProofs [go_sem,hz]
 ·have hg:=aE .u32 (l:=l) (i:=k-1) (by omega)
  have hk:k-1<l.length:=by omega
  simp -implicitDefEqProofs [go_sem,e1 h,hg,h]
  refine ⟨by omega,fun h0=>?_,fun h0=>?_⟩
  ·have ht:ax (l.take (k-1))=ax l:=by
    have:=jM hk (by simpa using h0)
    rw [show k-1+1=k by omega] at this
    rw [←this,hk2]
   refine ac ⟨k-1,by omega,ht⟩ (by simp only; omega) [] (by simp) (by simp) (by simp) (by simp -implicitDefEqProofs [go_sem]) (by simp)
  ·have:=jL hk (by simpa using h0)
   rw [show k-1+1=k by omega] at this
   refine ⟨hk1,by rw [gZ,←this,hk2],by rw [gZ]; simp -implicitDefEqProofs [go_sem]⟩
theorem rU {z:Bool} {ne:Nat} {Q:AEx→St→Prop} {k:List Itm} {t:Nat→AV} {f:Nat→BS} {n:Nat} {g:FuncId} {d:Option Tmp} {id:Nat} {kd:IntKind} {l:List Nat} {r:AV} (hp:aa Tryz.prog g [.sl 1 false (uA kd l)] r) (hf:l≠[]→f id = .live 1 (uA kd l)) (h:∀f',go Tryz.prog z ne Q k (ay t d r) f' n):wE Tryz.prog z ne Q g [cF 1 id (uA kd l)] d k t f n:=by
 by_cases hl:l=[]
 ·subst hl
  exact ao _ (hp.args (.cons (Wk.nil 0 1 true) .nil)) (by simp -implicitDefEqProofs [go_sem]) (h _)
 ·have hne:uA kd l≠[]:=by simpa [uA] using hl
  rw [aT hne]
  refine bp [id] _ hp (by simp -implicitDefEqProofs [go_sem,hf hl,bZ]) (by simp -implicitDefEqProofs [go_sem]) (by simp -implicitDefEqProofs [go_sem,hf hl]) (by simp -implicitDefEqProofs [go_sem,hf hl]) (h _)
def qA (n:Nat):AV:=mA (ah 4294967296 n)
@[go_sem] theorem qI (n:Nat):ro (qA n):=BG _
theorem fB (a b:Nat) (ha:bK (ah 4294967296 a)) (hb:bK (ah 4294967296 b)):aa Tryz.prog 217 [qA a,qA b] (.int .i64 (a8 a b)):=by
 unfold bK at ha hb
 have hva:=an (B:=4294967296) (by omega) a
 have hvb:=an (B:=4294967296) (by omega) b
 have hla:=ak (B:=4294967296) (by omega) a
 have hlb:=ak (B:=4294967296) (by omega) b
 have hlt:=cM (B:=4294967296) (by omega) hla (n:=b)
 have hgt:=cM (B:=4294967296) (by omega) hlb (n:=a)
 unfold qA
 generalize ah 4294967296 a=x at *
 generalize ah 4294967296 b=y at *
 refine Pg Tryz.func217 rfl [.tmp 4] rfl (by simp -implicitDefEqProofs [go_sem]) ?_
 simp -implicitDefEqProofs [go_sem]
 refine ⟨fun hne=>⟨fun h=>?_,fun h=>?_⟩,fun heq=>?_⟩
 ·rw [cg]; have:=hlt h; omega
 ·rw [bN]; have:=hgt (by omega); omega
 ·rw [bQ (by omega)]
  refine aj 9 (α:={i:Nat // i≤x.length∧x.drop i=y.drop i}) (fun i=>[(0,mA x),(1,mA y),(5,.int .i64 ((i.1:Int)-1))]) (fun i=>[]) (fun i=>i.1) ⟨x.length,by simp; omega⟩ [] (by simp) (by simp) (by simp) (by simp -implicitDefEqProofs [go_sem]) (by simp) fun ⟨i,hi,hd⟩=>?_
  simp -implicitDefEqProofs [go_sem]
  refine ⟨fun h=>?_,fun h=>?_⟩
  ·obtain ⟨k,hk⟩:∃k,k=i-1:=⟨_,rfl⟩
   have hik:i=k+1:=by omega
   subst hik
   have e1:(((k+1:Nat):Int)-1)=(k:Nat):=by omega
   have g1:=aE .u32 (l:=x) (i:=k) (by omega)
   have g2:=aE .u32 (l:=y) (i:=k) (by omega)
   have l1:=i4 (B:=4294967296) hla (x:=x) (y:=y) (k:=k) (by omega) (by omega) hd
   have l2:=i4 (B:=4294967296) hlb (x:=y) (y:=x) (k:=k) (by omega) (by omega) hd.symm
   rw [hva,hvb] at l1 l2
   have hkx:k<x.length:=by omega
   have hky:k<y.length:=by omega
   have hdd:x.getD k 0=y.getD k 0→x.drop k=y.drop k:=fun e=>by
    rw [List.drop_eq_getElem_cons hkx,List.drop_eq_getElem_cons hky,hd]
    congr 1
    rw [List.getD_eq_getElem?_getD,List.getD_eq_getElem?_getD,List.getElem?_eq_getElem hkx,List.getElem?_eq_getElem hky] at e
    exact e
   generalize x.getD k 0=u at *
   generalize y.getD k 0=w at *
   simp -implicitDefEqProofs [go_sem,e1,g1,g2]
   refine ⟨⟨by omega,hkx⟩,hky,fun hne=>⟨hkx,hky,fun h=>?_,fun h=>?_⟩,fun he=>?_⟩
   ·rw [cg]; have:=l1 h; omega
   ·rw [bN]; have:=l2 (by omega); omega
   ·rw [bQ (by omega)]
    exact ac ⟨k,by omega,hdd (by omega)⟩ (by simp only; omega) [] (by simp) (by simp) (by simp) (by simp -implicitDefEqProofs [go_sem]) (by simp)
  ·have:i=0:=by omega
   subst this
   simp only [List.drop_zero] at hd
   rw [show a=b by rw [←hva,←hvb,hd],dh]
theorem tM (i:Nat):4294967296 ^ (2*i)=18446744073709551616 ^ i:=by
 rw [Nat.pow_mul]
theorem pk (x:Nat):IntKind.u32.wrap (x:Int)=(x%4294967296:Nat):=by
 simp only [IntKind.wrap,IntKind.bits,IntKind.signed]
 simp only [Bool.false_and,Bool.false_eq_true,if_false]
 omega
theorem sI (x:Nat):(x:Int).fdiv 4294967296=(x / 4294967296:Nat):=by
 have:=me x 32
 rw [show (2:Int) ^ 32=4294967296 by rfl] at this
 rw [this]
@[go_sem] theorem ER (sz id:Nat) (l:List AV) (x y:AV):cF sz id (l++[x,y]) = .own sz id 0 (l.length+2):=by simp [cF]
@[go_sem] theorem EQ (sz id:Nat) (l:List AV) (x y:AV):eN sz id (l++[x,y])=[(id,.live sz (l++[x,y]))]:=by simp [eN]
theorem oC (a:List Nat) (ha:bA a) (la:aN 18446744073709551616 a):aa Tryz.prog 74 [nA a] (qA (lv 18446744073709551616 a)):=by
 unfold bA at ha
 refine Pg Tryz.func74 rfl [.tmp 2] rfl (qI _) ?_
 simp -implicitDefEqProofs [go_sem]
 refine aj 9 (α:={p:List Nat×Nat // p.2≤a.length∧p.1.length=2*p.2∧aN 4294967296 p.1∧lv 4294967296 p.1=lv 18446744073709551616 (a.take p.2)}) (fun p=>[(0,nA a),(3,cF 1 8 (uA .u32 p.1.1)),(4,.int .i64 p.1.2)]) (fun p=>eN 1 8 (uA .u32 p.1.1)) (fun p=>a.length-p.1.2) ⟨([],0),by simp [cG]⟩ [] (by simp) (by simp [go_sem]) (by simp) (by simp -implicitDefEqProofs [go_sem]) (by simp [go_sem]) fun ⟨⟨out,i⟩,h1,h2,h3,h4⟩=>?_
 simp only at h1 h2 h3 h4
 simp -implicitDefEqProofs [go_sem]
 refine ⟨fun h=>?_,fun h=>?_⟩
 ·have hg:=aE .u64 (l:=a) (i:=i) (by omega)
  have hx:=la.getD (by omega) i
  have t1:=aq 18446744073709551616 a i
  obtain ⟨x,hxe⟩:∃x,x=a.getD i 0:=⟨_,rfl⟩
  rw [←hxe] at hg hx t1
  have e3:IntKind.i64.wrap ((i:Int)+1)=((i+1:Nat):Int):=by rw [bQ (by omega)]; omega
  have w1:=pk x
  have w2:=pk (x / 4294967296)
  obtain ⟨lo,hlo⟩:∃j,j=x%4294967296:=⟨_,rfl⟩
  obtain ⟨hi,hhi⟩:∃j,j=x / 4294967296:=⟨_,rfl⟩
  have s1:=sI x
  rw [←hhi] at w2 s1
  rw [Nat.mod_eq_of_lt (by omega)] at w2
  rw [←hlo] at w1
  simp -implicitDefEqProofs [go_sem,hg,w1,w2,s1]
  refine ⟨h,aQ (by simp [go_sem]) (by omega) (by omega) (by simp [go_sem]) (by simp; omega) (fun hne=>by simp [go_sem,hne]) ?_⟩
  simp -implicitDefEqProofs [go_sem,e3]
  refine ac ⟨(out++[lo,hi],i+1),Nat.succ_le_of_lt h,by simp [h2]; omega,aL.2 ⟨h3,fun z hz=>by simp at hz; omega⟩,?_⟩ (by simp only; omega) [(8,22)] (by simp) (by simp [go_sem,aA]) (by simp) (by simp -implicitDefEqProofs [go_sem,aA]) (by simp -implicitDefEqProofs [go_sem,aA])
  simp only
  rw [aY,h2,tM,t1,h4]
  simp only [aZ,cA,Nat.mul_zero,Nat.add_zero]
  rw [show lo+4294967296*hi=x by omega]
 ·have e:i=a.length:=by omega
  rw [e,List.take_length] at h4
  refine rU (kd := .u32) (cf out (by unfold bK; omega)) (fun hne=>by simp -implicitDefEqProofs [go_sem,uA,hne]) fun f'=>?_
  rw [az (by omega) h3,h4]
  simp -implicitDefEqProofs [go_sem,qA]
theorem gO (v:Nat) (h:v<18446744073709551616):aa Tryz.prog 75 [.int .u64 v] (qA v):=by
 refine Pg Tryz.func75 rfl [.tmp 2] rfl (qI _) ?_
 have hin:=oC [v] (by unfold bA; simp) (fun z hz=>by simp at hz; omega)
 rw [show lv 18446744073709551616 [v]=v by simp] at hin
 simp -implicitDefEqProofs [go_sem]
 refine bp [0] _ hin (by simp -implicitDefEqProofs [go_sem]) (by simp -implicitDefEqProofs [go_sem]) (by simp -implicitDefEqProofs [go_sem]) (by simp -implicitDefEqProofs [go_sem]) ?_
 simp -implicitDefEqProofs [go_sem,qA]
theorem oq {l:List Nat} {i:Nat} (h:l.length≤i):l.getD i 0=0:=by
 rw [List.getD_eq_getElem?_getD,List.getElem?_eq_none h]; rfl
theorem ri (A V:Nat) (ha:bA (ah 4294967296 A)) (hb:bA (ah 4294967296 V)):aa Tryz.prog 297 [qA A,qA V] (qA (A+V)):=by
 unfold bA at ha hb
 have hva:=an (B:=4294967296) (by omega) A
 have hvb:=an (B:=4294967296) (by omega) V
 have la:=ak (B:=4294967296) (by omega) A
 have lb:=ak (B:=4294967296) (by omega) V
 refine Pg Tryz.func297 rfl [.tmp 4] rfl (qI _) ?_
 unfold qA
 rw [←hva,←hvb]
 rw [hva,hvb]
 generalize ah 4294967296 A=a at *
 generalize ah 4294967296 V=b at *
 obtain ⟨m,hm⟩:∃m:Nat,m=max a.length b.length:=⟨_,rfl⟩
 have em:(if a.length<b.length then (b.length:Int) else a.length)=(m:Nat):=by split<;>omega
 have em1:IntKind.i64.wrap ((m:Int)+1)=(m:Int)+1:=bQ (by omega)
 simp -implicitDefEqProofs [go_sem,em,em1]
 refine ⟨by omega,?_⟩
 refine aj 9 (α:={p:List Nat×Nat // (p.1.length≤m∨(p.1.length=m+1∧p.2=0))∧p.2≤1∧aN 4294967296 p.1∧lv 4294967296 p.1+4294967296 ^ p.1.length*p.2=lv 4294967296 (a.take p.1.length)+lv 4294967296 (b.take p.1.length)}) (fun p=>[(0,mA a),(1,mA b),(5,.own 1 0 0 p.1.1.length),(6,.int .u64 p.1.2),(7,.int .i64 p.1.1.length)]) (fun p=>[(0,.live 1 (uA .u32 p.1.1))]) (fun p=>m+1-p.1.1.length) ⟨([],0),by simp [cG]⟩ [] (by simp) (by simp) (by simp) (by simp -implicitDefEqProofs [go_sem]) (by simp -implicitDefEqProofs [go_sem]) fun ⟨⟨out,c⟩,h1,h2,h3,h4⟩=>?_
 simp only at h1 h2 h3 h4
 obtain ⟨i,hi⟩:∃i,i=out.length:=⟨_,rfl⟩
 have hx:=la.getD (by omega) i
 have hy:=lb.getD (by omega) i
 have t1:=aq 4294967296 a i
 have t2:=aq 4294967296 b i
 have ga:=fun h=>aE .u32 (l:=a) (i:=i) h
 have gb:=fun h=>aE .u32 (l:=b) (i:=i) h
 have za:=fun h=>oq (l:=a) (i:=i) h
 have zb:=fun h=>oq (l:=b) (i:=i) h
 obtain ⟨x,hxe⟩:∃x,x=a.getD i 0:=⟨_,rfl⟩
 obtain ⟨y,hye⟩:∃y,y=b.getD i 0:=⟨_,rfl⟩
 rw [←hxe] at hx t1 ga za
 rw [←hye] at hy t2 gb zb
 have wx:IntKind.u64.wrap (x:Int)=x:=aW (by omega)
 have wy:IntKind.u64.wrap (y:Int)=y:=aW (by omega)
 obtain ⟨cx,hcx⟩:∃q,q=c+x:=⟨_,rfl⟩
 have wcx:IntKind.u64.wrap ((c:Int)+x)=(cx:Nat):=by rw [aW (by omega)]; omega
 obtain ⟨v,hv⟩:∃q,q=cx+y:=⟨_,rfl⟩
 have wv:IntKind.u64.wrap ((cx:Int)+y)=(v:Nat):=by rw [aW (by omega)]; omega
 have wv2:x=0→IntKind.u64.wrap ((c:Int)+y)=(v:Nat):=fun h=>by rw [aW (by omega)]; omega
 have w1:=pk v
 have s1:=sI v
 have hdm:=Nat.mod_add_div v 4294967296
 have hlo:v%4294967296<4294967296:=Nat.mod_lt _ (by omega)
 obtain ⟨lo,hlo2⟩:∃j,j=v%4294967296:=⟨_,rfl⟩
 obtain ⟨c2,hc2⟩:∃j,j=v / 4294967296:=⟨_,rfl⟩
 rw [←hlo2] at w1 hdm hlo
 rw [←hc2] at s1 hdm
 have es:=wS i (by omega)
 have hcont:i<m∨0<c→m+1-(i+1)<m+1-i∧(i+1≤m∨(i+1=m+1∧c2=0)):=fun h=>by
  refine ⟨by omega,?_⟩
  rcases Nat.lt_or_ge i m with h5|h5
  ·omega
  ·right
   have:=za (by omega); have:=zb (by omega)
   omega
 have hinv:lv 4294967296 (out++[lo])+4294967296 ^ (i+1)*c2=lv 4294967296 (a.take (i+1))+lv 4294967296 (b.take (i+1)):=by
  rw [di,t1,t2,←hi,Nat.pow_succ]
  rw [←hi] at h4
  have h7:4294967296 ^ i*(lo+4294967296*c2)=4294967296 ^ i*(c+x+y):=by rw [hdm,hv,hcx]
  simp only [Nat.mul_add,←Nat.mul_assoc] at h7 h4 ⊢
  omega
 rw [←hi] at h1 h4
 by_cases hgo:i<m∨0<c
 ·obtain ⟨hc3,hc4⟩:=hcont hgo
  have hc2':c2≤1:=by omega
  have hag:(out++[lo]).length=i+1:=by simp [hi]
  have hlo3:aN 4294967296 (out++[lo]):=aL.2 ⟨h3,by simpa [aN] using hlo⟩
  have htk:(uA .u32 out).take i=uA .u32 out:=by rw [hi]; exact bZ _ _
  by_cases ia:i<a.length
  ·have ga:=ga ia
   have im:i<m:=by omega
   by_cases ib:i<b.length
   ·have gb:=gb ib
    simp -implicitDefEqProofs [go_sem,←hi,em,ia,ib,im,ga,gb,wx,wy,wcx,wv,w1,s1,htk,es]
    refine ⟨by omega,ac ⟨(out++[lo],c2),by simp only [hag]; exact hc4,hc2',hlo3,by simp only [hag]; exact hinv⟩ (by simp only [hag,←hi]; exact hc3) [(0,10)] (by simp) (by simp) (by simp) (by simp -implicitDefEqProofs [go_sem,←hi]) (by simp -implicitDefEqProofs [go_sem,aA])⟩
   ·have hy0:=zb (by omega)
    have hvx:v=cx:=by omega
    rw [hvx] at w1 s1
    simp -implicitDefEqProofs [go_sem,←hi,em,ia,ib,im,ga,wx,wcx,w1,s1,htk,es]
    refine ⟨by omega,ac ⟨(out++[lo],c2),by simp only [hag]; exact hc4,hc2',hlo3,by simp only [hag]; exact hinv⟩ (by simp only [hag,←hi]; exact hc3) [(0,10)] (by simp) (by simp) (by simp) (by simp -implicitDefEqProofs [go_sem,←hi]) (by simp -implicitDefEqProofs [go_sem,aA])⟩
  ·have hx0:=za (by omega)
   by_cases ib:i<b.length
   ·have gb:=gb ib
    have im:i<m:=by omega
    have wv2:=wv2 hx0
    simp -implicitDefEqProofs [go_sem,←hi,em,ia,ib,im,gb,wy,wv2,w1,s1,htk,es]
    refine ⟨by omega,ac ⟨(out++[lo],c2),by simp only [hag]; exact hc4,hc2',hlo3,by simp only [hag]; exact hinv⟩ (by simp only [hag,←hi]; exact hc3) [(0,10)] (by simp) (by simp) (by simp) (by simp -implicitDefEqProofs [go_sem,←hi]) (by simp -implicitDefEqProofs [go_sem,aA])⟩
   ·have hy0:=zb (by omega)
    have im:¬i<m:=by omega
    have c0:0<c:=by omega
    have hvc:v=c:=by omega
    rw [hvc] at w1 s1
    simp -implicitDefEqProofs [go_sem,←hi,em,ia,ib,im,c0,w1,s1,htk,es]
    refine ⟨by omega,ac ⟨(out++[lo],c2),by simp only [hag]; exact hc4,hc2',hlo3,by simp only [hag]; exact hinv⟩ (by simp only [hag,←hi]; exact hc3) [(0,10)] (by simp) (by simp) (by simp) (by simp -implicitDefEqProofs [go_sem,←hi]) (by simp -implicitDefEqProofs [go_sem,aA])⟩
 ·have im:¬i<m:=by omega
  have c0:c=0:=by omega
  rw [c0,Nat.mul_zero,Nat.add_zero,List.take_of_length_le (by omega),List.take_of_length_le (by omega),hva,hvb] at h4
  simp -implicitDefEqProofs [go_sem,←hi,em,im,c0]
  refine bp [0] _ (cf out (by unfold bK; omega)) (by simp -implicitDefEqProofs [go_sem,hi,bZ]) (by simp -implicitDefEqProofs [go_sem]) (by simp -implicitDefEqProofs [go_sem,hi]) (by simp -implicitDefEqProofs [go_sem]) ?_
  rw [az (by omega) h3,h4]
  simp -implicitDefEqProofs [go_sem]
theorem iO (A V:Nat) (ha:bA (ah 4294967296 A)) (hb:bA (ah 4294967296 V)) (hAV:V≤A):aa Tryz.prog 220 [qA A,qA V] (qA (A-V)):=by
 unfold bA at ha hb
 have hva:=an (B:=4294967296) (by omega) A
 have hvb:=an (B:=4294967296) (by omega) V
 have la:=ak (B:=4294967296) (by omega) A
 have lb:=ak (B:=4294967296) (by omega) V
 have hlen:(ah 4294967296 V).length≤(ah 4294967296 A).length:=by
  rcases Nat.lt_or_ge (ah 4294967296 A).length (ah 4294967296 V).length with h|h
  ·exfalso
   have:=cM (B:=4294967296) (by omega) la (n:=V) h
   omega
  ·exact h
 refine Pg Tryz.func220 rfl [.tmp 4] rfl (qI _) ?_
 unfold qA
 generalize ah 4294967296 A=a at *
 generalize ah 4294967296 V=b at *
 simp -implicitDefEqProofs [go_sem]
 refine ⟨by omega,?_⟩
 refine aj 9 (α:={p:List Nat×Nat // p.1.length≤a.length∧p.2≤1∧aN 4294967296 p.1∧lv 4294967296 p.1+lv 4294967296 (b.take p.1.length)=lv 4294967296 (a.take p.1.length)+4294967296 ^ p.1.length*p.2}) (fun p=>[(0,mA a),(1,mA b),(5,.own 1 0 0 p.1.1.length),(6,.int .u64 p.1.2),(7,.int .i64 p.1.1.length)]) (fun p=>[(0,.live 1 (uA .u32 p.1.1))]) (fun p=>a.length-p.1.1.length) ⟨([],0),by simp [cG]⟩ [] (by simp) (by simp) (by simp) (by simp -implicitDefEqProofs [go_sem]) (by simp -implicitDefEqProofs [go_sem]) fun ⟨⟨out,c⟩,h1,h2,h3,h4⟩=>?_
 simp only at h1 h2 h3 h4
 obtain ⟨i,hi⟩:∃i,i=out.length:=⟨_,rfl⟩
 rw [←hi] at h1 h4
 by_cases hgo:i<a.length
 ·have hx:=la.getD (by omega) i
  have hy:=lb.getD (by omega) i
  have t1:=aq 4294967296 a i
  have t2:=aq 4294967296 b i
  have ga:=aE .u32 (l:=a) (i:=i) hgo
  have gb:=fun h=>aE .u32 (l:=b) (i:=i) h
  have zb:=fun h=>oq (l:=b) (i:=i) h
  obtain ⟨x,hxe⟩:∃x,x=a.getD i 0:=⟨_,rfl⟩
  obtain ⟨y,hye⟩:∃y,y=b.getD i 0:=⟨_,rfl⟩
  rw [←hxe] at hx t1 ga
  rw [←hye] at hy t2 gb zb
  have wx:IntKind.u64.wrap (x:Int)=x:=aW (by omega)
  have wy:IntKind.u64.wrap (y:Int)=y:=aW (by omega)
  obtain ⟨v,hv⟩:∃q,q=c+y:=⟨_,rfl⟩
  have wv:IntKind.u64.wrap ((c:Int)+y)=(v:Nat):=by rw [aW (by omega)]; omega
  obtain ⟨x2,hx2⟩:∃q,q=x+4294967296:=⟨_,rfl⟩
  have wx2:IntKind.u64.wrap ((x:Int)+4294967296)=(x2:Nat):=by rw [aW (by omega)]; omega
  have htk:(uA .u32 out).take i=uA .u32 out:=by rw [hi]; exact bZ _ _
  have es:=wS i (by omega)
  obtain ⟨lo,c2,hc2,hlo,hsum,hlow,hhigh⟩:∃lo c2:Nat,c2≤1∧lo<4294967296∧lo+c+y=x+4294967296*c2∧(x<v→c2=1∧IntKind.u32.wrap (IntKind.u64.wrap ((x2:Int)-v))=(lo:Nat))∧(¬x<v→c2=0∧IntKind.u32.wrap (IntKind.u64.wrap ((x:Int)-v))=(lo:Nat)):=by
   by_cases hxv:x<v
   ·refine ⟨x2-v,1,by omega,by omega,by omega,fun _=>⟨rfl,?_⟩,fun h=>absurd hxv h⟩
    rw [aW (by omega),show ((x2:Int)-v)=(x2-v:Nat) by omega,pk,Nat.mod_eq_of_lt (by omega)]
   ·refine ⟨x-v,0,by omega,by omega,by omega,fun h=>absurd h hxv,fun _=>⟨rfl,?_⟩⟩
    rw [aW (by omega),show ((x:Int)-v)=(x-v:Nat) by omega,pk,Nat.mod_eq_of_lt (by omega)]
  have hag:(out++[lo]).length=i+1:=by simp [hi]
  have hlo3:aN 4294967296 (out++[lo]):=aL.2 ⟨h3,by simpa [aN] using hlo⟩
  have hinv:lv 4294967296 (out++[lo])+lv 4294967296 (b.take (i+1))=lv 4294967296 (a.take (i+1))+4294967296 ^ (i+1)*c2:=by
   rw [di,t1,t2,←hi,Nat.pow_succ]
   have h7:4294967296 ^ i*(lo+c+y)=4294967296 ^ i*(x+4294967296*c2):=by rw [hsum]
   simp only [Nat.mul_add,←Nat.mul_assoc] at h7 h4 ⊢
   omega
  by_cases ib:i<b.length
  ·have gb:=gb ib
   by_cases hxv:x<v
   ·obtain ⟨e1,e2⟩:=hlow hxv
    subst e1
    simp -implicitDefEqProofs [go_sem,←hi,hgo,ib,ga,gb,wx,wy,wv,hxv,wx2,e2,htk,es]
    refine ⟨by omega,ac ⟨(out++[lo],1),by simp only [hag]; omega,hc2,hlo3,by simp only [hag]; exact hinv⟩ (by simp only [hag,←hi]; omega) [(0,10)] (by simp) (by simp) (by simp) (by simp -implicitDefEqProofs [go_sem,←hi]) (by simp -implicitDefEqProofs [go_sem,aA])⟩
   ·obtain ⟨e1,e2⟩:=hhigh hxv
    subst e1
    simp -implicitDefEqProofs [go_sem,←hi,hgo,ib,ga,gb,wx,wy,wv,hxv,e2,htk,es]
    refine ⟨by omega,ac ⟨(out++[lo],0),by simp only [hag]; omega,hc2,hlo3,by simp only [hag]; exact hinv⟩ (by simp only [hag,←hi]; omega) [(0,10)] (by simp) (by simp) (by simp) (by simp -implicitDefEqProofs [go_sem,←hi]) (by simp -implicitDefEqProofs [go_sem,aA])⟩
  ·have hy0:=zb (by omega)
   have hvc:v=c:=by omega
   rw [hvc] at hlow hhigh
   by_cases hxv:x<c
   ·obtain ⟨e1,e2⟩:=hlow hxv
    subst e1
    simp -implicitDefEqProofs [go_sem,←hi,hgo,ib,ga,wx,hxv,wx2,e2,htk,es]
    refine ⟨by omega,ac ⟨(out++[lo],1),by simp only [hag]; omega,hc2,hlo3,by simp only [hag]; exact hinv⟩ (by simp only [hag,←hi]; omega) [(0,10)] (by simp) (by simp) (by simp) (by simp -implicitDefEqProofs [go_sem,←hi]) (by simp -implicitDefEqProofs [go_sem,aA])⟩
   ·obtain ⟨e1,e2⟩:=hhigh hxv
    subst e1
    simp -implicitDefEqProofs [go_sem,←hi,hgo,ib,ga,wx,hxv,e2,htk,es]
    refine ⟨by omega,ac ⟨(out++[lo],0),by simp only [hag]; omega,hc2,hlo3,by simp only [hag]; exact hinv⟩ (by simp only [hag,←hi]; omega) [(0,10)] (by simp) (by simp) (by simp) (by simp -implicitDefEqProofs [go_sem,←hi]) (by simp -implicitDefEqProofs [go_sem,aA])⟩
 ·have e:i=a.length:=by omega
  rw [e,List.take_length,List.take_of_length_le (by omega),hva,hvb] at h4
  have hlo:=bF h3
  rw [←hi,e] at hlo
  have hA:=bF la
  rw [hva] at hA
  have hc0:c=0:=by
   rcases Nat.eq_zero_or_pos c with h6|h6
   ·exact h6
   ·rw [show c=1 by omega] at h4; omega
  rw [hc0,Nat.mul_zero,Nat.add_zero] at h4
  simp -implicitDefEqProofs [go_sem,←hi,hgo]
  refine bp [0] _ (cf out (by unfold bK; omega)) (by simp -implicitDefEqProofs [go_sem,hi,bZ]) (by simp -implicitDefEqProofs [go_sem]) (by simp -implicitDefEqProofs [go_sem,hi]) (by simp -implicitDefEqProofs [go_sem]) ?_
  rw [az (by omega) h3,show lv 4294967296 out=A-V by omega]
  simp -implicitDefEqProofs [go_sem]
theorem iG (A V:Nat) (ha:bA (ah 4294967296 A)) (hb:bA (ah 4294967296 V)):aa Tryz.prog 200 [qA A,qA V] (qA (A*V)):=by
 unfold bA at ha hb
 have hva:=an (B:=4294967296) (by omega) A
 have hvb:=an (B:=4294967296) (by omega) V
 have la:=ak (B:=4294967296) (by omega) A
 have lb:=ak (B:=4294967296) (by omega) V
 refine Pg Tryz.func200 rfl [.tmp 4] rfl (qI _) ?_
 unfold qA
 generalize ah 4294967296 A=a at *
 generalize ah 4294967296 V=b at *
 obtain ⟨m,hm⟩:∃m,m=a.length+b.length:=⟨_,rfl⟩
 have e0:IntKind.i64.wrap ((a.length:Int)+b.length)=(m:Nat):=by rw [bQ (by omega)]; omega
 simp -implicitDefEqProofs [go_sem,e0]
 refine ⟨by omega,?_⟩
 rw [gF]
 refine aj 9 (α:={p:List Nat×Nat // p.1.length=m∧p.2≤a.length∧aN 4294967296 p.1∧lv 4294967296 p.1=lv 4294967296 (a.take p.2)*lv 4294967296 b∧∀j,p.2+b.length≤j→p.1.getD j 0=0}) (fun p=>[(0,mA a),(1,mA b),(5,.own 1 0 0 m),(6,.int .i64 p.1.2)]) (fun p=>[(0,.live 1 (uA .u32 p.1.1))]) (fun p=>a.length-p.1.2) ⟨(List.replicate m 0,0),by simp,by simp,fun x hx=>by rw [(List.mem_replicate.1 hx).2]; decide,by simp [p_],fun j _=>by simp [List.getElem?_replicate]; split<;>rfl⟩ [] (by simp) (by simp) (by simp) (by simp -implicitDefEqProofs [go_sem]) (by simp -implicitDefEqProofs [go_sem]) fun ⟨⟨out,i⟩,h1,h2,h3,h4,h5⟩=>?_
 simp only at h1 h2 h3 h4 h5
 simp -implicitDefEqProofs [go_sem]
 refine ⟨fun h=>?_,fun h=>?_⟩
 ·have hga:=aE .u32 (l:=a) (i:=i) (by omega)
  have hx:=la.getD (by omega) i
  have t1:=aq 4294967296 a i
  obtain ⟨x,hxx⟩:∃x,x=a.getD i 0:=⟨_,rfl⟩
  rw [←hxx] at hx t1 hga
  refine aj 9 (α:={p:List Nat×Nat×Nat // p.1.length=m∧p.2.1≤b.length∧p.2.2<4294967296∧aN 4294967296 p.1∧lv 4294967296 p.1+4294967296 ^ (i+p.2.1)*p.2.2=lv 4294967296 (a.take i)*lv 4294967296 b+4294967296 ^ i*(x*lv 4294967296 (b.take p.2.1))∧∀j,i+b.length≤j→p.1.getD j 0=0}) (fun p=>[(0,mA a),(1,mA b),(5,.own 1 0 0 m),(6,.int .i64 i),(7,.int .u64 p.1.2.2),(8,.int .i64 p.1.2.1)]) (fun p=>[(0,.live 1 (uA .u32 p.1.1))]) (fun p=>b.length-p.1.2.1) ⟨(out,0,0),h1,by simp,by simp,h3,by simp [h4],h5⟩ [] (by simp) (by simp) (by simp) (by simp -implicitDefEqProofs [go_sem]) (by simp -implicitDefEqProofs [go_sem]) fun ⟨⟨o2,k,c⟩,q1,q2,q3,q4,q5,q6⟩=>?_
  simp only at q1 q2 q3 q4 q5 q6
  simp -implicitDefEqProofs [go_sem]
  refine ⟨fun hk=>?_,fun hk=>?_⟩
  ·have hgb:=aE .u32 (l:=b) (i:=k) (by omega)
   have hy:=lb.getD (by omega) k
   have t2:=aq 4294967296 b k
   obtain ⟨y,hyy⟩:∃y,y=b.getD k 0:=⟨_,rfl⟩
   rw [←hyy] at hy t2 hgb
   obtain ⟨j,hj⟩:∃j,j=i+k:=⟨_,rfl⟩
   rw [←hj] at q5
   have ej:IntKind.i64.wrap ((i:Int)+k)=(j:Nat):=by rw [bQ (by omega)]; omega
   have hjm:j<m:=by omega
   have hjo:j<o2.length:=by omega
   have hgo:=cq .u32 (l:=o2) (i:=j) hjo
   have hw:=q4.getD (by omega) j
   obtain ⟨w,hww⟩:∃w,w=o2.getD j 0:=⟨_,rfl⟩
   rw [←hww] at hgo hw
   have hxy:x*y≤4294967295*4294967295:=Nat.mul_le_mul (by omega) (by omega)
   have wx:IntKind.u64.wrap (x:Int)=x:=aW (by omega)
   have wy:IntKind.u64.wrap (y:Int)=y:=aW (by omega)
   have ww:IntKind.u64.wrap (w:Int)=w:=aW (by omega)
   have e1:IntKind.u64.wrap ((x:Int)*y)=(x*y:Nat):=sg (by omega)
   obtain ⟨xy,hxye⟩:∃q,q=x*y:=⟨_,rfl⟩
   rw [←hxye] at e1 hxy
   have e2:IntKind.u64.wrap ((w:Int)+xy)=(w+xy:Nat):=fY (by omega)
   obtain ⟨s1,hs1⟩:∃q,q=w+xy:=⟨_,rfl⟩
   rw [←hs1] at e2
   have e3:IntKind.u64.wrap ((s1:Int)+c)=(s1+c:Nat):=fY (by omega)
   obtain ⟨v,hv⟩:∃q,q=s1+c:=⟨_,rfl⟩
   rw [←hv] at e3
   have e4:=pk v
   have e5:=sI v
   have hdm:=Nat.mod_add_div v 4294967296
   have hlo:v%4294967296<4294967296:=Nat.mod_lt _ (by omega)
   obtain ⟨lo,hlo2⟩:∃j,j=v%4294967296:=⟨_,rfl⟩
   obtain ⟨c2,hc2⟩:∃j,j=v / 4294967296:=⟨_,rfl⟩
   rw [←hlo2] at e4 hdm hlo
   rw [←hc2] at e5 hdm
   have es:=wS k (by omega)
   have hset:=gr 4294967296 lo hjo
   rw [←hww] at hset
   simp -implicitDefEqProofs [go_sem,hga,hgb,ej,hgo,wx,wy,ww,e1,e2,e3,e4,e5,es,bW]
   refine ⟨hjm,hjo,h,hk,hjm,hjo,ac ⟨(o2.set j lo,k+1,c2),by simp [q1],Nat.succ_le_of_lt hk,by simp only; omega,q4.set hlo j,?_,fun j' hj'=>by rw [getD_set_ne (by omega)]; exact q6 j' hj'⟩ (by simp only; omega) [] (by simp) (by simp) (by simp) (by simp -implicitDefEqProofs [go_sem]) (by simp -implicitDefEqProofs [go_sem,bW])⟩
   simp only
   rw [←Nat.add_assoc,←hj,t2,Nat.pow_succ]
   have h7:4294967296 ^ j*(lo+4294967296*c2)=4294967296 ^ j*(w+x*y+c):=by rw [hdm,hv,hs1,hxye]
   have h8:4294967296 ^ i*(x*(4294967296 ^ k*y))=4294967296 ^ j*(x*y):=by rw [hj,Nat.pow_add,Nat.mul_left_comm x,←Nat.mul_assoc]
   simp only [Nat.mul_add,←Nat.mul_assoc] at h7 h8 q5 hset ⊢
   omega
  ·have hkk:k=b.length:=by omega
   subst hkk
   obtain ⟨j,hj⟩:∃j,j=i+b.length:=⟨_,rfl⟩
   have ej:IntKind.i64.wrap ((i:Int)+b.length)=(j:Nat):=by rw [bQ (by omega)]; omega
   have hjo:j<o2.length:=by omega
   have hjm:j<m:=by omega
   have hgj:=cq .u32 (l:=o2) (i:=j) (by omega)
   have es:=wS i (by omega)
   have hset:=gr 4294967296 c hjo
   rw [q6 j (by omega)] at hset
   rw [←hj,List.take_length] at q5
   have e4:=pk c
   rw [Nat.mod_eq_of_lt q3] at e4
   simp -implicitDefEqProofs [go_sem,ej,hgj,es,e4]
   refine ⟨hjm,hjo,ac ⟨(o2.set j c,i+1),by simp [q1],Nat.succ_le_of_lt h,q4.set q3 j,?_,fun j' hj'=>by simp only at hj'; rw [getD_set_ne (by omega)]; exact q6 j' (by omega)⟩ (by simp only; omega) [] (by simp) (by simp) (by simp) (by simp -implicitDefEqProofs [go_sem]) (by simp -implicitDefEqProofs [go_sem,bW])⟩
   simp only
   rw [t1,Nat.add_mul,Nat.mul_assoc]
   omega
 ·have hi:i=a.length:=by omega
  rw [hi,List.take_length,hva,hvb] at h4
  refine bp [0] _ (cf out (by unfold bK; omega)) (by simp -implicitDefEqProofs [go_sem,←h1,bZ]) (by simp -implicitDefEqProofs [go_sem]) (by simp -implicitDefEqProofs [go_sem,h1]) (by simp -implicitDefEqProofs [go_sem]) ?_
  rw [az (by omega) h3,h4]
  simp -implicitDefEqProofs [go_sem]
theorem BL {r x:Nat} (hr:r<4294967296) (hx:x<4294967296):Bz .u64 (IntKind.u64.wrap ((r:Int)*4294967296)) (x:Int)=(r*4294967296+x:Nat):=by
 have e:IntKind.u64.wrap ((r:Int)*4294967296)=(r*4294967296:Nat):=by rw [aW (by omega)]; omega
 rw [e,HU (by omega) (by omega)]
 have h:=Nat.two_pow_add_eq_or_of_lt (i:=32) (b:=x) (by omega) r
 rw [show (2:Nat) ^ 32=4294967296 by rfl,Nat.mul_comm] at h
 rw [←h]
theorem sH (A y:Nat) (ha:bA (ah 4294967296 A)) (hy:0<y) (hyB:y<4294967296):aa Tryz.prog 218 [qA A,.int .u32 y] (.agg [qA (A / y),qA (A%y)]):=by
 unfold bA at ha
 have hva:=an (B:=4294967296) (by omega) A
 have la:=ak (B:=4294967296) (by omega) A
 have hof:=gO (A%y) (by have:=Nat.mod_lt A hy; omega)
 refine Pg Tryz.func218 rfl [.cell 4 238] rfl (by simp -implicitDefEqProofs [go_sem,qA]) ?_
 unfold qA at *
 generalize ah 4294967296 A=a at *
 simp -implicitDefEqProofs [go_sem]
 refine ⟨by omega,?_⟩
 rw [gF,bQ (by omega)]
 obtain ⟨QQ,hQQ⟩:∃q,q=A / y:=⟨_,rfl⟩
 obtain ⟨RR,hRR⟩:∃q,q=A%y:=⟨_,rfl⟩
 rw [←hRR] at hof
 rw [←hQQ,←hRR]
 refine aj 9 (α:={p:List Nat×Nat×Nat // p.1.length=a.length∧aN 4294967296 p.1∧p.2.1<y∧p.2.2≤a.length∧lv 4294967296 (a.drop p.2.2)=y*lv 4294967296 (p.1.drop p.2.2)+p.2.1}) (fun p=>[(0,mA a),(1,.int .u32 y),(4,.ptr 0 0 0),(5,.own 1 1 0 a.length),(6,.int .u64 p.1.2.1),(7,.int .i64 ((p.1.2.2:Int)-1))]) (fun p=>[(0,.live 2 [.agg [.sl 0 true [],.sl 0 true []]]),(1,.live 1 (uA .u32 p.1.1))]) (fun p=>p.1.2.2) ⟨(List.replicate a.length 0,0,a.length),by simp,fun x hx=>by rw [(List.mem_replicate.1 hx).2]; decide,hy,by simp,by simp⟩ [] (by simp) (fun _ _ _ _ h=>h) (by omega) (by simp -implicitDefEqProofs [go_sem]) (by simp -implicitDefEqProofs [go_sem]) fun ⟨⟨out,m,i⟩,q1,q2,q3,q4,q5⟩=>?_
 simp only at q1 q2 q3 q4 q5
 simp -implicitDefEqProofs [go_sem]
 refine ⟨fun h0=>?_,fun h0=>?_⟩
 ·obtain ⟨k,hik⟩:∃k,i=k+1:=⟨i-1,by omega⟩
  subst hik
  have g1:=aE .u32 (l:=a) (i:=k) (by omega)
  have hx:=la.getD (by omega) k
  have hko:k<out.length:=by omega
  have g2:=cq .u32 (l:=out) (i:=k) hko
  have hd:=fI 4294967296 (l:=a) (k:=k) (by omega)
  obtain ⟨x,hxx⟩:∃x,x=a.getD k 0:=⟨_,rfl⟩
  rw [←hxx] at hx g1 hd
  have hdm:=Nat.div_add_mod (m*4294967296+x) y
  have hml:=Nat.mod_lt (m*4294967296+x) hy
  have hqB:(m*4294967296+x) / y<4294967296:=by
   rw [Nat.div_lt_iff_lt_mul hy]
   have:(m+1)*4294967296≤y*4294967296:=Nat.mul_le_mul_right _ q3
   rw [Nat.mul_comm 4294967296]
   omega
  have e0:=BL (r:=m) (x:=x) (by omega) hx
  have wx:IntKind.u64.wrap (x:Int)=x:=aW (by omega)
  have wy:IntKind.u64.wrap (y:Int)=y:=aW (by omega)
  have ei:IntKind.i64.wrap (((k+1:Nat):Int)-1)=(k:Nat):=by rw [bQ (by omega)]; omega
  have ek:((k+1:Nat):Int)-1=(k:Nat):=by omega
  have ek2:IntKind.i64.wrap ((k:Int)-1)=(k:Int)-1:=bQ (by omega)
  simp -implicitDefEqProofs [go_sem,ek,g1]
  refine ⟨by omega,?_⟩
  obtain ⟨v,hv⟩:∃v,v=m*4294967296+x:=⟨_,rfl⟩
  rw [←hv] at e0 hdm hml hqB
  have e1:((v:Int).tdiv (y:Int))=(v / y:Nat):=by rw [Int.tdiv_eq_ediv_of_nonneg (by omega)]; rfl
  have e2:((v:Int).tmod (y:Int))=(v%y:Nat):=by rw [Int.tmod_eq_emod_of_nonneg (by omega)]; rfl
  obtain ⟨q,hq⟩:∃q,q=v / y:=⟨_,rfl⟩
  obtain ⟨m2,hm2⟩:∃q,q=v%y:=⟨_,rfl⟩
  rw [←hq] at e1 hdm hqB
  rw [←hm2] at e2 hdm hml
  have e4:IntKind.u64.wrap (q:Int)=q:=aW (by omega)
  have e3:=pk q
  rw [Nat.mod_eq_of_lt hqB] at e3
  have hy0:¬y=0:=by omega
  simp -implicitDefEqProofs [go_sem,ek,ek2,g1,g2,wx,wy,e0,e1,e2,e3,e4,hy0,g2,bW]
  refine ⟨by omega,hko,?_⟩
  refine ac ⟨(out.set k q,m2,k),by simp [q1],q2.set hqB k,hml,by simp only; omega,?_⟩ (by simp only; omega) [] (by simp) (fun _ _ _ _ h=>h) (by omega) (by simp -implicitDefEqProofs [go_sem]) (by simp -implicitDefEqProofs [go_sem,bW])
  simp only
  have e9:(out.set k q).drop k=q::out.drop (k+1):=by
   rw [List.drop_eq_getElem_cons (by simpa using hko),List.drop_set_of_lt (by omega)]
   simp
  rw [e9,aZ,hd,q5]
  have h9:4294967296*(y*lv 4294967296 (out.drop (k+1))+m)=y*(4294967296*lv 4294967296 (out.drop (k+1)))+m*4294967296:=by
   rw [Nat.mul_add,Nat.mul_left_comm,Nat.mul_comm m]
  rw [h9,Nat.mul_add y]
  omega
 ·have hi:i=0:=by omega
  subst hi
  simp only [List.drop_zero] at q5
  have hQ:lv 4294967296 out=QQ:=by rw [hQQ,←hva,q5,Nat.mul_add_div hy,Nat.div_eq_of_lt q3,Nat.add_zero]
  have hR:m=RR:=by rw [hRR,←hva,q5,Nat.mul_add_mod,Nat.mod_eq_of_lt q3]
  refine bp [1] _ (cf out (by unfold bK; omega)) (by simp -implicitDefEqProofs [go_sem,←q1,bZ]) (by simp -implicitDefEqProofs [go_sem]) (by simp -implicitDefEqProofs [go_sem,q1]) (by simp -implicitDefEqProofs [go_sem]) ?_
  rw [az (by omega) q2,hQ,hR]
  simp -implicitDefEqProofs [go_sem]
  refine ab hof ?_
  simp -implicitDefEqProofs [go_sem,aK]
theorem u_ {R V p x bt:Nat} {r bl:List Nat} (hr:lv 4294967296 r=R) (hv:lv 4294967296 (bl++[bt])=V) (lb:aN 4294967296 bl) (hp:p=bl.length) (hpr:p≤r.length) (hx:x=lv 4294967296 (r.drop p)):x / (bt+1)*V≤R:=by
 have h1:R=lv 4294967296 (r.take p)+4294967296 ^ p*x:=by
  rw [hx,←hr]
  conv=>lhs; rw [←List.take_append_drop p r]
  rw [aY,List.length_take,Nat.min_eq_left hpr]
 have h2:V≤4294967296 ^ p*(bt+1):=by
  have:=bF (B:=4294967296) lb
  rw [←hp] at this
  rw [←hv,aY,←hp,aZ,cA,Nat.mul_zero,Nat.add_zero,Nat.mul_add,Nat.mul_one]
  omega
 have h3:x / (bt+1)*(bt+1)≤x:=Nat.div_mul_le_self _ _
 calc x / (bt+1)*V≤x / (bt+1)*(4294967296 ^ p*(bt+1)):=Nat.mul_le_mul_left _ h2
  _=4294967296 ^ p*(x / (bt+1)*(bt+1)):=by rw [Nat.mul_left_comm]
  _≤4294967296 ^ p*x:=Nat.mul_le_mul_left _ h3
  _≤R:=by omega
theorem zH {x y:Int}:a8 x y≤0↔x≤y:=by
 unfold a8; split
 ·constructor<;>omega
 ·split<;>constructor<;>omega
theorem yL {A V k:Nat} (h:V<4294967296 ^ k):(ah 4294967296 (A*V)).length≤(ah 4294967296 A).length+k:=by
 refine bB (by omega) ?_
 rw [Nat.pow_add]
 have h1:=bF (ak (B:=4294967296) (by omega) A)
 rw [an (by omega)] at h1
 exact Nat.mul_lt_mul'' h1 h
theorem ox (R V:Nat) (hr:bA (ah 4294967296 R)) (hb:bA (ah 4294967296 V)) (hVR:V≤R) (h0:0<V) (hlt:R<V*4294967296):aa Tryz.prog 219 [qA R,qA V] (.int .u32 (R / V:Nat)):=by
 have hmul:=fun h (hh:h<18446744073709551616)=>iG V h hb (by unfold bA; have:=bB (B:=4294967296) (n:=h) (k:=2) (by omega) hh; omega)
 have hcmp:=fun h (hh:h<18446744073709551616)=>fB (V*h) R (by unfold bA at hb; unfold bK; have:=yL (A:=V) (V:=h) (k:=2) hh; omega) hr.x
 have hof:=fun h (hh:h<18446744073709551616)=>gO h hh
 unfold bA at hr hb
 have hvr:=an (B:=4294967296) (by omega) R
 have hvb:=an (B:=4294967296) (by omega) V
 have lr:=ak (B:=4294967296) (by omega) R
 have lb:=ak (B:=4294967296) (by omega) V
 obtain ⟨bl,bt,hbe,hbt⟩:=dP (B:=4294967296) (n:=V) (by omega) (Nat.pos_iff_ne_zero.1 h0)
 obtain ⟨n,hn⟩:∃n,n=(ah 4294967296 V).length:=⟨_,rfl⟩
 obtain ⟨m,hm⟩:∃m,m=(ah 4294967296 R).length:=⟨_,rfl⟩
 have hnp:n=bl.length+1:=by rw [hn,hbe]; simp
 have hmn:n≤m:=by
  rw [hn,hm]
  rcases Nat.lt_or_ge (ah 4294967296 R).length (ah 4294967296 V).length with h|h
  ·have:=cM (B:=4294967296) (by omega) lr h; omega
  ·exact h
 have hmn1:m≤n+1:=by
  rw [hm]
  refine bB (by omega) ?_
  have h1:=bF lb
  rw [hvb,←hn] at h1
  have h2:V*4294967296<4294967296 ^ n*4294967296:=Nat.mul_lt_mul_of_pos_right h1 (by omega)
  rw [Nat.pow_succ]; exact Nat.lt_trans hlt h2
 have lbl:aN 4294967296 bl:=by rw [hbe] at lb; exact (aL.1 lb).1
 have hbtB:bt<4294967296:=by
  have h9:bt∈ah 4294967296 V:=by rw [hbe]; exact List.mem_append_right _ (List.mem_singleton_self _)
  exact lb bt h9
 have hgb:=aE .u32 (l:=ah 4294967296 V) (i:=bl.length) (by omega)
 rw [show (ah 4294967296 V).getD bl.length 0=bt by rw [hbe,List.getD_eq_getElem?_getD,List.getElem?_append_right (Nat.le_refl _),Nat.sub_self]; rfl] at hgb
 have hvbl:lv 4294967296 (bl++[bt])=V:=by rw [←hbe]; exact hvb
 refine Pg Tryz.func219 rfl [.tmp 4] rfl (by simp -implicitDefEqProofs [go_sem]) ?_
 unfold qA at *
 generalize ah 4294967296 R=r at *
 generalize ah 4294967296 V=b at *
 obtain ⟨p,hp⟩:∃p,p=bl.length:=⟨_,rfl⟩
 obtain ⟨mm,hmm⟩:∃q,m=q+1:=⟨m-1,by omega⟩
 have hg1:=aE .u32 (l:=r) (i:=mm) (by omega)
 have hx1:=lr.getD (by omega) mm
 obtain ⟨r1,hr1⟩:∃x,x=r.getD mm 0:=⟨_,rfl⟩
 rw [←hr1] at hg1 hx1
 have e1:IntKind.i64.wrap ((r.length:Int)-1)=(mm:Nat):=by rw [bQ (by omega)]; omega
 have e2:IntKind.u64.wrap (r1:Int)=r1:=aW (by omega)
 have e3:IntKind.i64.wrap ((b.length:Int)-1)=(p:Nat):=by rw [bQ (by omega)]; omega
 rw [←hp] at hgb
 have e4:IntKind.u64.wrap (bt:Int)=bt:=aW (by omega)
 obtain ⟨x,hx⟩:∃x,x=lv 4294967296 (r.drop p):=⟨_,rfl⟩
 have hd:=u_ (p:=p) (x:=x) hvr hvbl lbl hp (by omega) hx
 have hxB:x<18446744073709551616:=by
  have h1:=bF (B:=4294967296) (lr.drop p)
  have h2:4294967296 ^ (r.drop p).length≤4294967296 ^ 2:=Nat.pow_le_pow_right (by omega) (by rw [List.length_drop]; omega)
  rw [←hx] at h1
  omega
 obtain ⟨bt1,hbt1⟩:∃q,q=bt+1:=⟨_,rfl⟩
 obtain ⟨d,hdd⟩:∃q,q=x / bt1:=⟨_,rfl⟩
 have e8:IntKind.u64.wrap ((bt:Int)+1)=(bt1:Nat):=by rw [aW (by omega)]; omega
 have e9:¬bt1=0:=by omega
 have e10:(x:Int).tdiv (bt1:Int)=(d:Nat):=by rw [Int.tdiv_eq_ediv_of_nonneg (by omega),hdd]; rfl
 have e10':(x:Int) / (bt1:Int)=(d:Nat):=by rw [hdd]; rfl
 have e11:IntKind.u64.wrap (d:Int)=d:=aW (by
  have:d≤x:=by rw [hdd]; exact Nat.div_le_self _ _
  omega)
 rw [←hbt1,←hdd] at hd
 rcases Nat.lt_or_ge b.length r.length with h|h
 case' inl =>
  have hg2:=aE .u32 (l:=r) (i:=p) (by omega)
  have hx2:=lr.getD (by omega) p
  have d1:=fI 4294967296 (l:=r) (k:=p) (by omega)
  have d2:=fI 4294967296 (l:=r) (k:=p+1) (by omega)
  rw [show r.drop (p+1+1)=[] from List.drop_eq_nil_of_le (by omega),cA] at d2
  rw [d2,←hx,show p+1=mm by omega,←hr1] at d1
  obtain ⟨r2,hr2⟩:∃x,x=r.getD p 0:=⟨_,rfl⟩
  rw [←hr2] at hg2 hx2 d1
  have e5:IntKind.i64.wrap ((r.length:Int)-2)=(p:Nat):=by rw [bQ (by omega)]; omega
  have e6:IntKind.u64.wrap (r2:Int)=r2:=aW (by omega)
  have e7:=BL hx1 hx2
  rw [show r1*4294967296+r2=x by omega] at e7
  clear d1 d2 hx2 hx1
  simp -implicitDefEqProofs [go_sem,e1,hg1,e2,h,e5,hg2,e6,e7,e3,e4,hgb,e8,e9,e10,e10',e11]
  refine ⟨by omega,by omega,by omega,?_⟩
 case' inr =>
  have hxr:x=r1:=by
   have d1:=fI 4294967296 (l:=r) (k:=p) (by omega)
   rw [show r.drop (p+1)=[] from List.drop_eq_nil_of_le (by omega),cA,←hx,show p=mm by omega,←hr1] at d1
   exact d1
  subst hxr
  simp -implicitDefEqProofs [go_sem,e1,hg1,e2,Nat.not_lt.2 h,e3,e4,hgb,e8,e9,e10,e10',e11]
  refine ⟨by omega,by omega,?_⟩
 all_goals
  obtain ⟨Q,hQ⟩:∃q,q=R / V:=⟨_,rfl⟩
  rw [←Nat.le_div_iff_mul_le h0,←hQ] at hd
  have hQB:Q<4294967296:=by rw [hQ,Nat.div_lt_iff_lt_mul h0,Nat.mul_comm]; exact hlt
  have hle:∀h,a8 ((V*h:Nat):Int) (R:Int)≤0↔h≤Q:=fun h=>by
   rw [zH,hQ,Nat.le_div_iff_mul_le h0,Nat.mul_comm h V]; omega
  rw [show ((R:Int) / (V:Int))=(Q:Nat) by rw [hQ]; rfl]
  refine aj 9 (α:={p:Nat×Nat×Nat // p.1≤Q∧p.1≤p.2.1∧(p.2.1=p.1→p.2.1=d)∧1≤p.2.2∧p.2.2≤p.2.1+1∧p.2.1≤8589934592}) (fun p=>[(0,mA r),(1,mA b),(8,.int .u64 p.1.1),(9,.int .u64 p.1.2.1),(10,.int .u64 p.1.2.2)]) (fun p=>[]) (fun p=>8589934592-p.1.2.1) ⟨(d,d,1),hd,by simp,fun _=>rfl,by simp,by simp only; omega,by simp only; omega⟩ [] (by simp) (by simp) (by simp) (by simp -implicitDefEqProofs [go_sem]) (by simp -implicitDefEqProofs [go_sem]) fun ⟨⟨lo,hi,st⟩,q1,q2,q3,q4,q5,q6⟩=>?_
  simp only at q1 q2 q3 q4 q5 q6
  simp -implicitDefEqProofs [go_sem]
  refine ab (hof hi (by omega)) ?_
  simp -implicitDefEqProofs [go_sem]
  refine ab (hmul hi (by omega)) ?_
  have hc1:=hcmp hi (by omega)
  have hc2:=hle hi
  generalize V*hi=vh at *
  obtain ⟨c,hc⟩:∃c,c=a8 (vh:Int) (R:Int):=⟨_,rfl⟩
  rw [←hc] at hc1 hc2
  simp -implicitDefEqProofs [go_sem]
  refine ab hc1 ?_
  rcases Nat.lt_or_ge Q hi with hq|hq
  case' inr =>
   have hc3:c≤0:=by rw [hc2]; exact hq
   have hc4:(hi:Int)<4294967296:=by omega
   have w1:IntKind.u64.wrap ((hi:Int)+st)=(hi+st:Nat):=fY (by omega)
   have w2:IntKind.u64.wrap ((st:Int)*2)=(st*2:Nat):=by rw [aW (by omega)]; omega
   obtain ⟨h2,hh2⟩:∃h,h=hi+st:=⟨_,rfl⟩
   obtain ⟨s2,hs2⟩:∃h,h=st*2:=⟨_,rfl⟩
   rw [←hh2] at w1
   rw [←hs2] at w2
   simp -implicitDefEqProofs [go_sem,hc3,hc4,w1,w2]
   exact ac ⟨(hi,h2,s2),hq,by simp only; omega,by simp only; omega,by simp only; omega,by simp only; omega,by simp only; omega⟩ (by simp only; omega) [] (by simp) (by simp) (by simp) (by simp -implicitDefEqProofs [go_sem]) (by simp -implicitDefEqProofs [go_sem])
  case' inl =>
   have hc3:¬c≤0:=by rw [hc2]; omega
   obtain ⟨h3,hh3⟩:∃h,h=min hi 4294967296:=⟨_,rfl⟩
   have hm1:(if 4294967296<(hi:Int) then 4294967296 else (hi:Int))=(h3:Nat):=by split<;>omega
   simp -implicitDefEqProofs [go_sem,hc3,hm1]
   clear hc1 hc2 hc hm1
   refine aj 9 (α:={p:Nat×Nat // p.1≤Q∧Q<p.2∧p.2≤4294967296}) (fun p=>[(0,mA r),(1,mA b),(8,.int .u64 p.1.1),(9,.int .u64 p.1.2)]) (fun p=>[]) (fun p=>p.1.2-p.1.1) ⟨(lo,h3),q1,by simp only; omega,by simp only; omega⟩ [] (by simp) (by simp) (by simp) (by simp -implicitDefEqProofs [go_sem]) (by simp -implicitDefEqProofs [go_sem]) fun ⟨⟨lo,hi⟩,q1,q2,q3⟩=>?_
   simp only at q1 q2 q3
   have w1:IntKind.u64.wrap ((hi:Int)-lo)=(hi-lo:Nat):=by rw [aW (by omega)]; omega
   obtain ⟨df,hdf⟩:∃h,h=hi-lo:=⟨_,rfl⟩
   rw [←hdf] at w1
   have w2:IntKind.u64.wrap ((df:Int) / 2)=(df / 2:Nat):=by rw [aW (by omega)]; omega
   obtain ⟨d2,hd2⟩:∃h,h=df / 2:=⟨_,rfl⟩
   rw [←hd2] at w2
   have w3:IntKind.u64.wrap ((lo:Int)+d2)=(lo+d2:Nat):=fY (by omega)
   obtain ⟨md,hmd⟩:∃h,h=lo+d2:=⟨_,rfl⟩
   rw [←hmd] at w3
   simp -implicitDefEqProofs [go_sem,w1]
   refine ⟨fun h5=>?_,fun h5=>?_⟩
   case' refine_1 =>
    simp -implicitDefEqProofs [go_sem,w1,w2,w3]
    refine ab (hof md (by omega)) ?_
    simp -implicitDefEqProofs [go_sem]
    refine ab (hmul md (by omega)) ?_
    have hc1:=hcmp md (by omega)
    have hc2:=hle md
    generalize V*md=vh at *
    obtain ⟨c,hc⟩:∃c,c=a8 (vh:Int) (R:Int):=⟨_,rfl⟩
    rw [←hc] at hc1 hc2
    simp -implicitDefEqProofs [go_sem]
    refine ab hc1 ?_
    simp -implicitDefEqProofs [go_sem]
    refine ⟨fun h6=>?_,fun h6=>?_⟩
    ·exact ac ⟨(md,hi),hc2.1 h6,q2,q3⟩ (by simp only; omega) [] (by simp) (by simp) (by simp) (by simp -implicitDefEqProofs [go_sem]) (by simp -implicitDefEqProofs [go_sem])
    ·have h7:¬md≤Q:=fun h8=>by have:=hc2.2 h8; omega
     exact ac ⟨(lo,md),q1,by simp only; omega,by simp only; omega⟩ (by simp only; omega) [] (by simp) (by simp) (by simp) (by simp -implicitDefEqProofs [go_sem]) (by simp -implicitDefEqProofs [go_sem])
   case' refine_2 =>
    have hlo:lo=Q:=by omega
    subst hlo
    have e20:=pk lo
    rw [Nat.mod_eq_of_lt hQB] at e20
    simp -implicitDefEqProofs [go_sem,e20]
theorem F9 {ne:Nat} {t t1:Nat→AV} {f:Nat→BS} {n:Nat} {s0:St} (hw:∀k,Wk (t k) (t1 k)) (h:le ne ⟨t1,f,n⟩ s0):le ne ⟨t,f,n⟩ s0:=by
 rintro c0 N a w ⟨c,rfl,hk,hfr,ht,hN,hd,hs,h0,hne⟩
 exact h c0 N a _ ⟨c,rfl,hk,hfr,fun k=>(hw k).1 c _ (ht k),hN,hd,hs,h0,hne⟩
theorem Du {t:Nat→AV} {i:Nat} {v:AV} (h:Wk (t i) v):∀k,Wk (t k) (ap t i v k):=fun k=>by
 unfold ap; split
 ·rename_i e; subst e; exact h
 ·exact Wk.refl _
theorem xZ {P:Program} {z:Bool} {ne:Nat} {Q:AEx→St→Prop} {k:List Itm} {t:Nat→AV} {f:Nat→BS} {n:Nat} {c:Code} {α:Type} (i:Nat) (v:AV) (hw:Wk (t i) v) (n1:Nat) (tl:α→List (Nat×AV)) (hl:α→List (Nat×BS)) (m:α→Nat) (x0:α) (rl:List (Nat×Nat)) (hrl:∀p∈rl,ne≤p.1) (hri:∀p∈hl x0,∀q∈hl x0,nm rl p.1=nm rl q.1→p.1=q.1) (hne:ne≤n1) (ht:∀p∈tl x0,ap t i v p.1=ren (nm rl) p.2∧clo n1 p.2) (hh:∀p∈hl x0,p.1<n1∧f (nm rl p.1)=fL (nm rl) p.2∧cS ne n1 p)
 (h:∀x,go P z ne Q (.code c :: .lp α (fun y=>A0 n1 (tl y) (hl y)) m x::k) (tm (tl x)) (hp n1 (hl x)) n1):go P z ne Q (.code (.loop c)::k) t f n :=
 kF (fun y=>A0 n1 (tl y) (hl y)) m x0 (F9 (Du hw) (gp rl hrl hri hne ht hh)) h
theorem db {B x y:Nat} (hB:2≤B) (h:x≤y):(ah B x).length≤(ah B y).length:=by
 refine bB hB ?_
 have h1:=bF (ak (B:=B) (by omega) y)
 rw [an (by omega)] at h1
 omega
theorem r_ (B:Nat) (hB:B≠0) (l:List Nat) (k:Nat):lv B (l.drop k)≤lv B l:=by
 rcases Nat.lt_or_ge k l.length with h|h
 ·have h1:lv B l=lv B (l.take k)+B ^ k*lv B (l.drop k):=by
   conv=>lhs; rw [←List.take_append_drop k l]
   rw [aY,List.length_take,Nat.min_eq_left (by omega)]
  have h2:1*lv B (l.drop k)≤B ^ k*lv B (l.drop k):=Nat.mul_le_mul_right _ (Nat.pow_pos (by omega))
  omega
 ·rw [List.drop_eq_nil_of_le h,cA]; exact Nat.zero_le _
theorem eH (A V:Nat) (ha:bA (ah 4294967296 A)) (hb:bA (ah 4294967296 V)) (h0:0<V):aa Tryz.prog 155 [qA A,qA V] (.agg [qA (A / V),qA (A%V)]):=by
 have hcmp:=fB A V ha.x hb.x
 by_cases hlt:A<V
 ·have hc:a8 A V<0:=by rw [cg (by omega)]; omega
  rw [Nat.div_eq_of_lt hlt,Nat.mod_eq_of_lt hlt]
  refine (aa.of_go (r := .agg [.sl 0 true [],qA A]) lL Tryz.func155 rfl (rs:=[.cell 4 238]) rfl (by kernel_rfl) (by simp -implicitDefEqProofs [go_sem,qA]) ?_).weaken (Wk.agg (.cons (by unfold qA; rw [aD]; exact Wk.nil 0 1 true) (sT.refl _)))
  unfold qA at *
  simp -implicitDefEqProofs [go_sem]
  refine ab hcmp ?_
  simp -implicitDefEqProofs [go_sem,hc,aK]
 ·have hVA:V≤A:=by omega
  have hc:¬a8 A V<0:=by
   rcases Nat.lt_or_ge V A with h|h
   ·rw [bN (by omega)]; omega
   ·rw [show A=V by omega,dh]; omega
  have hva:=an (B:=4294967296) (by omega) A
  have la:=ak (B:=4294967296) (by omega) A
  obtain ⟨QQ,hQQ⟩:∃q,q=A / V:=⟨_,rfl⟩
  obtain ⟨RR,hRR⟩:∃q,q=A%V:=⟨_,rfl⟩
  by_cases h1:V<4294967296
  ·have hsh:=sH A V ha h0 h1
   have hy1:=cI (B:=4294967296) (by omega) (Nat.pos_iff_ne_zero.1 h0) h1
   refine Pg Tryz.func155 rfl [.cell 4 238] rfl (by simp -implicitDefEqProofs [go_sem,qA]) ?_
   rw [←hQQ,←hRR] at hsh ⊢
   have hva2:(ah 4294967296 V).length=1:=by rw [hy1]; rfl
   have hg:=aE .u32 (l:=ah 4294967296 V) (i:=0) (by omega)
   rw [show (ah 4294967296 V).getD 0 0=V by rw [hy1]; rfl] at hg
   unfold qA at *
   generalize ah 4294967296 V=b at *
   simp only [Int.natCast_zero,Int.ofNat_zero] at hg
   simp -implicitDefEqProofs [go_sem]
   refine ab hcmp ?_
   simp -implicitDefEqProofs [go_sem,hc,hva2,hg]
   refine ab hsh ?_
   simp -implicitDefEqProofs [go_sem,aK]
  ·have hb2:2≤(ah 4294967296 V).length:=by
    rcases Nat.lt_or_ge (ah 4294967296 V).length 2 with h|h
    ·exfalso
     have h2:=bF (ak (B:=4294967296) (by omega) V)
     rw [an (by omega)] at h2
     have h3:4294967296 ^ (ah 4294967296 V).length≤4294967296 ^ 1:=Nat.pow_le_pow_right (by omega) (by omega)
     omega
    ·exact h
   have hcm:∀x,x≤A→aa Tryz.prog 217 [qA x,qA V] (.int .i64 (a8 x V)):=fun x hx=>fB x V (bA.x (Nat.lt_of_le_of_lt (db (by omega) hx) ha)) hb.x
   have hgs:∀x,x≤A→V≤x→x<V*4294967296→aa Tryz.prog 219 [qA x,qA V] (.int .u32 (x / V:Nat)):=fun x hx hv hl=>ox x V (Nat.lt_of_le_of_lt (db (by omega) hx) ha) hb hv h0 hl
   have hml:∀d,d<4294967296→aa Tryz.prog 200 [qA V,qA d] (qA (V*d)):=fun d hd=>iG V d hb (by unfold bA; have:=bB (B:=4294967296) (n:=d) (k:=1) (by omega) (by omega); omega)
   have hsb:∀x y,x≤A→y≤x→aa Tryz.prog 220 [qA x,qA y] (qA (x-y)):=fun x y hx hy=>iO x y (Nat.lt_of_le_of_lt (db (by omega) hx) ha) (Nat.lt_of_le_of_lt (db (by omega) (Nat.le_trans hy hx)) ha) hy
   refine Pg Tryz.func155 rfl [.cell 4 238] rfl (by simp -implicitDefEqProofs [go_sem,qA]) ?_
   rw [←hQQ,←hRR]
   unfold bA at ha
   unfold qA at *
   generalize ah 4294967296 A=a at *
   generalize hbe:ah 4294967296 V=b at *
   have hbl:¬(b.length:Int)=1:=by omega
   simp -implicitDefEqProofs [go_sem]
   refine ab hcmp ?_
   simp -implicitDefEqProofs [go_sem,hc,hbl]
   refine ⟨by omega,?_⟩
   rw [gF,bQ (by omega)]
   refine xZ 6 (mA (ah 4294967296 0)) (by rw [aD]; exact Wk.nil 0 1 true) 9 (α:={p:List Nat×Nat×Nat // p.1.length=a.length∧aN 4294967296 p.1∧p.2.1<V∧p.2.2≤a.length∧lv 4294967296 (a.drop p.2.2)=V*lv 4294967296 (p.1.drop p.2.2)+p.2.1∧∀j,j<p.2.2→p.1.getD j 0=0}) (fun p=>[(0,mA a),(1,mA b),(4,.ptr 0 0 0),(5,.own 1 1 0 a.length),(6,mA (ah 4294967296 p.1.2.1)),(7,.int .i64 ((p.1.2.2:Int)-1))]) (fun p=>[(0,.live 2 [.agg [.sl 0 true [],.sl 0 true []]]),(1,.live 1 (uA .u32 p.1.1))]) (fun p=>p.1.2.2) ⟨(List.replicate a.length 0,0,a.length),by simp,fun x hx=>by rw [(List.mem_replicate.1 hx).2]; decide,h0,by simp,by simp,fun j _=>by simp [List.getElem?_replicate]; split<;>rfl⟩ [] (by simp) (fun _ _ _ _ h=>h) (by omega) (by simp -implicitDefEqProofs [go_sem]) (by simp -implicitDefEqProofs [go_sem]) fun ⟨⟨out,m,i⟩,q1,q2,q3,q4,q5,q6⟩=>?_
   simp only at q1 q2 q3 q4 q5 q6
   simp -implicitDefEqProofs [go_sem]
   refine ⟨fun hi0=>?_,fun hi0=>?_⟩
   ·obtain ⟨k,hik⟩:∃k,i=k+1:=⟨i-1,by omega⟩
    subst hik
    have ek:((k+1:Nat):Int)-1=(k:Nat):=by omega
    have g1:=aE .u32 (l:=a) (i:=k) (by omega)
    have hx:=la.getD (by omega) k
    have hko:k<out.length:=by omega
    have g2:=cq .u32 (l:=out) (i:=k) hko
    have hd:=fI 4294967296 (l:=a) (k:=k) (by omega)
    obtain ⟨x,hxx⟩:∃x,x=a.getD k 0:=⟨_,rfl⟩
    rw [←hxx] at hx g1 hd
    simp -implicitDefEqProofs [go_sem,ek,g1]
    refine ⟨by omega,?_⟩
    obtain ⟨r1,hr1⟩:∃r,r=x+4294967296*m:=⟨_,rfl⟩
    have hmV:(ah 4294967296 m).length≤b.length:=by rw [←hbe]; exact db (by omega) (by omega)
    unfold bA at hb
    have lxm:aN 4294967296 (x::ah 4294967296 m):=fun z hz=>by
     rcases List.mem_cons.1 hz with e|e
     ·subst e; exact hx
     ·exact ak (by omega) m z e
    have htl:=az (B:=4294967296) (by omega) lxm
    rw [aZ,an (by omega),←hr1] at htl
    have hr2:lv 4294967296 (a.drop k)=V*(4294967296*lv 4294967296 (out.drop (k+1)))+r1:=by
     rw [hd,q5,hr1,Nat.mul_add,Nat.mul_left_comm]; omega
    have hrA:r1≤A:=by
     have:=r_ 4294967296 (by omega) a k
     omega
    have hrV:r1<V*4294967296:=by
     have:(m+1)*4294967296≤V*4294967296:=Nat.mul_le_mul_right _ q3
     omega
    refine ⟨by omega,bp [10] _ (cf (x::ah 4294967296 m) (by unfold bK; rw [List.length_cons]; omega)) (by simp -implicitDefEqProofs [go_sem]; rw [List.take_of_length_le (by simp; omega)]) (by simp -implicitDefEqProofs [go_sem]) (by simp -implicitDefEqProofs [go_sem]; omega) (by simp -implicitDefEqProofs [go_sem]) ?_⟩
    rw [htl]
    simp -implicitDefEqProofs [go_sem]
    refine ab (hcm r1 hrA) ?_
    have ek2:IntKind.i64.wrap ((k:Int)-1)=(k:Int)-1:=bQ (by omega)
    have hok:=fI 4294967296 hko
    rcases Nat.lt_or_ge r1 V with h9|h9
    ·have hc9:a8 r1 V<0:=by rw [cg (by omega)]; omega
     simp -implicitDefEqProofs [go_sem,hc9,ek2]
     refine ac ⟨(out,r1,k),q1,q2,h9,by simp only; omega,?_,fun j hj=>q6 j (Nat.lt_succ_of_lt hj)⟩ (by simp only; omega) [] (by simp) (fun _ _ _ _ h=>h) (by omega) (by simp -implicitDefEqProofs [go_sem]) (by simp -implicitDefEqProofs [go_sem])
     simp only
     rw [hok,q6 k (by omega),Nat.zero_add]; exact hr2
    ·have hc9:¬a8 r1 V<0:=by
      rcases Nat.lt_or_ge V r1 with h|h
      ·rw [bN (by omega)]; omega
      ·rw [show r1=V by omega,dh]; omega
     have hg9:=hgs r1 hrA h9 hrV
     have hdm:=Nat.div_add_mod r1 V
     have hlt9:=Nat.mod_lt r1 h0
     have dt:r1 / V<4294967296:=by rw [Nat.div_lt_iff_lt_mul h0,Nat.mul_comm]; exact hrV
     have hd0:0<r1 / V:=Nat.div_pos h9 h0
     obtain ⟨d,hdd⟩:∃d,d=r1 / V:=⟨_,rfl⟩
     rw [←hdd] at hg9 hdm dt hd0
     have hml9:=hml d dt
     rw [cI (B:=4294967296) (by omega) (by omega) dt] at hml9
     have hsb9:=hsb r1 (V*d) hrA (by omega)
     rw [show r1-V*d=r1%V by omega] at hsb9
     obtain ⟨r2,hr22⟩:∃d,d=r1%V:=⟨_,rfl⟩
     obtain ⟨vd,hvd⟩:∃e,e=V*d:=⟨_,rfl⟩
     rw [←hr22] at hsb9 hdm hlt9
     rw [←hvd] at hsb9 hml9 hdm
     simp -implicitDefEqProofs [go_sem,hc9]
     refine ab hg9 ?_
     simp -implicitDefEqProofs [go_sem,g2,bW]
     refine ⟨by omega,hko,bp [11] _ hml9 (by simp -implicitDefEqProofs [go_sem]) (by simp -implicitDefEqProofs [go_sem]) (by simp -implicitDefEqProofs [go_sem]) (by simp -implicitDefEqProofs [go_sem]) ?_⟩
     simp -implicitDefEqProofs [go_sem]
     refine ab hsb9 ?_
     simp -implicitDefEqProofs [go_sem,ek2]
     refine ac ⟨(out.set k d,r2,k),by simp [q1],q2.set dt k,hlt9,by simp only; omega,?_,fun j hj=>by simp only at hj; rw [getD_set_ne (by omega)]; exact q6 j (by omega)⟩ (by simp only; omega) [] (by simp) (fun _ _ _ _ h=>h) (by omega) (by simp -implicitDefEqProofs [go_sem]) (by simp -implicitDefEqProofs [go_sem])
     simp only
     have e9:(out.set k d).drop k=d::out.drop (k+1):=by
      rw [List.drop_eq_getElem_cons (by simpa using hko),List.drop_set_of_lt (by omega)]
      simp
     rw [e9,aZ,hr2,Nat.mul_add V,←hdm,hvd]
     omega
   ·have hi:i=0:=by omega
    subst hi
    simp only [List.drop_zero] at q5
    have hQ:lv 4294967296 out=QQ:=by rw [hQQ,←hva,q5,Nat.mul_add_div (by omega),Nat.div_eq_of_lt q3,Nat.add_zero]
    have hR:m=RR:=by rw [hRR,←hva,q5,Nat.mul_add_mod,Nat.mod_eq_of_lt q3]
    refine bp [1] _ (cf out (by unfold bK; omega)) (by simp -implicitDefEqProofs [go_sem,←q1,bZ]) (by simp -implicitDefEqProofs [go_sem]) (by simp -implicitDefEqProofs [go_sem,q1]) (by simp -implicitDefEqProofs [go_sem]) ?_
    rw [az (by omega) q2,hQ,hR]
    simp -implicitDefEqProofs [go_sem,aK]
theorem rS (A V:Nat) (ha:bA (ah 4294967296 A)) (hb:bA (ah 4294967296 V)):aa Tryz.prog 154 [qA A,qA V] (qA (Nat.gcd A V)):=by
 refine Pg Tryz.func154 rfl [.tmp 4] rfl (by simp -implicitDefEqProofs [go_sem,qA]) ?_
 unfold qA at *
 obtain ⟨g,hg⟩:∃g,g=Nat.gcd A V:=⟨_,rfl⟩
 rw [←hg]
 simp -implicitDefEqProofs [go_sem]
 refine aj 9 (α:={p:Nat×Nat // bA (ah 4294967296 p.1)∧bA (ah 4294967296 p.2)∧Nat.gcd p.1 p.2=g}) (fun p=>[(0,mA (ah 4294967296 p.1.1)),(1,mA (ah 4294967296 p.1.2))]) (fun p=>[]) (fun p=>p.1.2) ⟨(A,V),ha,hb,hg.symm⟩ [] (by simp) (by simp) (by simp) (by simp -implicitDefEqProofs [go_sem]) (by simp -implicitDefEqProofs [go_sem]) fun ⟨⟨x,y⟩,h1,h2,h3⟩=>?_
 simp only at h1 h2 h3
 simp -implicitDefEqProofs [go_sem]
 refine ⟨fun h=>?_,fun h=>?_⟩
 ·have hy:0<y:=by
   rcases Nat.eq_zero_or_pos y with hh|hh
   ·subst hh; rw [aD] at h; simp at h
   ·exact hh
  have hd:=eH x y h1 h2 hy
  unfold qA at hd
  have hlt:=Nat.mod_lt x hy
  obtain ⟨q,hq⟩:∃q,q=x / y:=⟨_,rfl⟩
  obtain ⟨r,hr⟩:∃q,q=x%y:=⟨_,rfl⟩
  rw [←hq,←hr] at hd
  rw [←hr] at hlt
  refine ab hd ?_
  simp -implicitDefEqProofs [go_sem]
  refine ac ⟨(y,r),h2,Nat.lt_of_le_of_lt (db (by omega) (by simp only; omega)) h2,?_⟩ (by simp only; omega) [] (by simp) (by simp) (by simp) (by simp -implicitDefEqProofs [go_sem]) (by simp)
  simp only
  rw [←h3,hr,Nat.gcd_comm,←Nat.gcd_rec,Nat.gcd_comm]
 ·have hy:y=0:=by
   have:ah 4294967296 y=[]:=by
    cases hl:ah 4294967296 y with
    | nil=>rfl
    | cons c l=>rw [hl] at h; simp at h
   exact (aH (by omega)).1 this
  rw [hy,Nat.gcd_zero_right] at h3
  rw [h3]
theorem CW {A:Nat} {out:List Nat} (l:aN 18446744073709551616 out) (h:lv 18446744073709551616 out=A) (hl:2*out.length≤(ah 4294967296 A).length+1):out=ah 18446744073709551616 A:=by
 have h1:=az (B:=18446744073709551616) (by omega) l
 rw [h] at h1
 have h2:=fk out
 have h3:(ax out).length=out.length:=by
  rcases Nat.lt_or_ge (ax out).length out.length with h4|h4
  ·exfalso
   by_cases h0:A=0
   ·subst h0
    rw [aD] at hl
    simp only [List.length_nil] at hl
    omega
   ·obtain ⟨bl,bt,e,hbt⟩:=dP (B:=4294967296) (by omega) h0
    have hA:=an (B:=4294967296) (by omega) A
    rw [e,aY,aZ,cA,Nat.mul_zero,Nat.add_zero] at hA
    have h5:4294967296 ^ bl.length*1≤4294967296 ^ bl.length*bt:=Nat.mul_le_mul_left _ (Nat.pos_iff_ne_zero.2 hbt)
    have h6:=bF (B:=18446744073709551616) l.trim
    rw [eg,h,←tM] at h6
    rw [e,List.length_append,List.length_singleton] at hl
    have h7:4294967296 ^ (2*(ax out).length)≤4294967296 ^ bl.length:=Nat.pow_le_pow_right (by omega) (by omega)
    generalize 4294967296 ^ (2*(ax out).length)=u at *
    generalize 4294967296 ^ bl.length=w at *
    omega
  ·have:=dl out
   exact Nat.le_antisymm this h4
 rw [h3,List.take_length] at h2
 rw [←h1]
 exact h2
theorem qo (A:Nat) (ha:bA (ah 4294967296 A)):aa Tryz.prog 203 [qA A] (nA (ah 18446744073709551616 A)):=by
 unfold bA at ha
 have hva:=an (B:=4294967296) (by omega) A
 have la:=ak (B:=4294967296) (by omega) A
 have hoe:=fun out => @CW A out
 unfold qA
 refine aa.of_ca (ea _) (Cg Tryz.func203 rfl [.tmp 2] rfl ?_)
 generalize ah 4294967296 A=a at *
 simp -implicitDefEqProofs [go_sem]
 refine aj 9 (α:={p:List Nat×Nat // p.2=2*p.1.length∧p.2≤a.length+1∧aN 18446744073709551616 p.1∧lv 18446744073709551616 p.1=lv 4294967296 (a.take p.2)}) (fun p=>[(0,mA a),(3,cF 1 8 (uA .u64 p.1.1)),(4,.int .i64 p.1.2)]) (fun p=>eN 1 8 (uA .u64 p.1.1)) (fun p=>a.length+1-p.1.2) ⟨([],0),by simp [cG]⟩ [] (by simp) (by simp [go_sem]) (by simp) (by simp -implicitDefEqProofs [go_sem]) (by simp [go_sem]) fun ⟨⟨out,i⟩,h1,h2,h3,h4⟩=>?_
 simp only at h1 h2 h3 h4
 simp -implicitDefEqProofs [go_sem]
 refine ⟨fun h=>?_,fun h=>?_⟩
 ·have hg:=aE .u32 (l:=a) (i:=i) (by omega)
  have hx:=la.getD (by omega) i
  have t1:=aq 4294967296 a i
  have t2:=aq 4294967296 a (i+1)
  obtain ⟨x,hxe⟩:∃x,x=a.getD i 0:=⟨_,rfl⟩
  rw [←hxe] at hg hx t1
  have e1:IntKind.u64.wrap (x:Int)=x:=aW (by omega)
  have e2:IntKind.i64.wrap ((i:Int)+1)=((i+1:Nat):Int):=by rw [bQ (by omega)]; omega
  have e3:IntKind.i64.wrap ((i:Int)+2)=((i+2:Nat):Int):=by rw [bQ (by omega)]; omega
  have hpw:4294967296 ^ i=18446744073709551616 ^ out.length:=by rw [h1,tM]
  rcases Nat.lt_or_ge (i+1) a.length with h5|h5
  ·have hg2:=aE .u32 (l:=a) (i:=i+1) (by omega)
   have hy:=la.getD (by omega) (i+1)
   obtain ⟨y,hye⟩:∃x,x=a.getD (i+1) 0:=⟨_,rfl⟩
   rw [←hye] at hg2 hy t2
   obtain ⟨i1,hi1⟩:∃j,j=i+1:=⟨_,rfl⟩
   rw [←hi1] at e2 hg2 h5
   have e4:IntKind.u64.wrap (y:Int)=y:=aW (by omega)
   have e5:IntKind.u64.wrap ((y:Int)*4294967296)=(y*4294967296:Nat):=by rw [aW (by omega)]; omega
   obtain ⟨y2,hy2⟩:∃j,j=y*4294967296:=⟨_,rfl⟩
   rw [←hy2] at e5
   have e6:IntKind.u64.wrap ((x:Int)+y2)=(x+y2:Nat):=fY (by omega)
   obtain ⟨z,hz⟩:∃j,j=x+y2:=⟨_,rfl⟩
   rw [←hz] at e6
   simp -implicitDefEqProofs [go_sem,hg,hg2,e1,e2,e4,e5,e6,h5]
   refine ⟨h,aQ (by simp [go_sem]) (by omega) (by omega) (by simp [go_sem]) (by simp; omega) (fun hne=>by simp [go_sem,hne]) ?_⟩
   simp -implicitDefEqProofs [go_sem,e3]
   refine ac ⟨(out++[z],i+2),by simp [h1]; omega,by simp only; omega,aL.2 ⟨h3,fun w hw=>by simp at hw; omega⟩,?_⟩ (by simp only; omega) [(8,10)] (by simp) (by simp [go_sem,aA]) (by simp) (by simp -implicitDefEqProofs [go_sem,aA]) (by simp -implicitDefEqProofs [go_sem,aA])
   simp only
   rw [aY,h4,aZ,cA,Nat.mul_zero,Nat.add_zero,←hpw,show i+2=i+1+1 by omega,t2,t1,hz,hy2,Nat.mul_add,Nat.pow_succ,Nat.mul_assoc,Nat.mul_comm y]
   omega
  ·have e7:¬(i+1:Nat)<a.length:=by omega
   have e8:¬((i+1:Nat):Int)<a.length:=by omega
   obtain ⟨i1,hi1⟩:∃j,j=i+1:=⟨_,rfl⟩
   rw [←hi1] at e2 e7 e8
   simp -implicitDefEqProofs [go_sem,hg,e1,e2,e7]
   refine ⟨h,aQ (by simp [go_sem]) (by omega) (by omega) (by simp [go_sem]) (by simp; omega) (fun hne=>by simp [go_sem,hne]) ?_⟩
   simp -implicitDefEqProofs [go_sem,e3]
   refine ac ⟨(out++[x],i+2),by simp [h1]; omega,by simp only; omega,aL.2 ⟨h3,fun w hw=>by simp at hw; omega⟩,?_⟩ (by simp only; omega) [(8,10)] (by simp) (by simp [go_sem,aA]) (by simp) (by simp -implicitDefEqProofs [go_sem,aA]) (by simp -implicitDefEqProofs [go_sem,aA])
   simp only
   rw [aY,h4,aZ,cA,Nat.mul_zero,Nat.add_zero,←hpw,←t1,List.take_of_length_le (by omega),List.take_of_length_le (by omega)]
 ·rw [List.take_of_length_le (by omega),hva] at h4
  have he:=hoe out h3 h4 (by omega)
  rw [←he]
  by_cases h0:out=[]
  ·subst h0
   simp -implicitDefEqProofs [go_sem,cF]
   exact Wk.nil 0 1 true
  ·have hne:uA .u64 out≠[]:=by simpa [uA] using h0
   simp -implicitDefEqProofs [go_sem,aT hne,a7 hne,bZ]
   exact Wk.refl _
structure ZR where
 neg:Bool
 n:List Nat
def cW (neg:Bool) (x:Nat):Int:=if neg then -(x:Int) else x
def ZR.av (z:ZR):AV := .agg [.bool z.neg,nA z.n]
def ZR.val (z:ZR):Int:=cW z.neg (lv 18446744073709551616 z.n)
structure ZR.Ok (z:ZR):Prop where
 len:bA z.n
 lim:aN 18446744073709551616 z.n
def zc (x:Int):ZR:=⟨decide (x<0),ah 18446744073709551616 x.natAbs⟩
def zA (x:Int):AV:=(zc x).av
def nl (x:Nat):Nat:=(ah 18446744073709551616 x).length
def kv (x:Nat):Prop:=bA (ah 18446744073709551616 x)
theorem fH {x:Nat}:kv x↔nl x<1099511627776:=Iff.rfl
theorem bR (x:Int):(zc x).val=x:=by
 unfold ZR.val zc cW
 simp only [an (B:=18446744073709551616) (by omega),decide_eq_true_eq]
 split<;>omega
theorem fU {x:Int} (h:kv x.natAbs):(zc x).Ok:=⟨h,ak (by omega) _⟩
theorem bX (b:Bool) (x:Nat):(cW b x).natAbs=x:=by unfold cW; split<;>omega
theorem o5 (b:Bool) (x:Nat):decide (cW b x<0)=(b && decide (0<x)):=by
 unfold cW
 cases b<;>simp<;>omega
theorem Dy (b:Bool) (x:Nat):zA (cW b x) = .agg [.bool (b && decide (0<x)),nA (ah 18446744073709551616 x)]:=by
 unfold zA zc ZR.av; simp only [bX,o5]
theorem CS {x:Nat}:decide (0<(ah 18446744073709551616 x).length)=decide (0<x):=by
 congr 1
 rw [List.length_pos_iff,ne_eq,aH (by omega),Nat.pos_iff_ne_zero]
theorem j0 (x:Int):ro (zA x):=by unfold zA ZR.av; simp -implicitDefEqProofs [go_sem]
theorem GG (z:ZR):ro z.av:=by unfold ZR.av; simp -implicitDefEqProofs [go_sem]
theorem dg (neg:Bool) (n:List Nat) (hn:bA n) (ln:aN 18446744073709551616 n):aa Tryz.prog 162 [.bool neg,nA n] (zA (cW neg (lv 18446744073709551616 n))):=by
 have ha:=pu n [] hn (by unfold bA; simp) ln cG
 rw [cA,Nat.add_zero] at ha
 refine Pg Tryz.func162 rfl [.cell 4 25] rfl (j0 _) ?_
 rw [Dy]
 simp -implicitDefEqProofs [go_sem]
 refine ab (ha.args (.cons (Wk.refl _) (.cons (Wk.nil 0 1 true) .nil))) ?_
 have hp:=CS (x:=lv 18446744073709551616 n)
 generalize lv 18446744073709551616 n=x at *
 simp -implicitDefEqProofs [go_sem,aK]
 refine ⟨fun h=>by rw [hp,h]; rfl,fun h h2=>by rw [h] at h2; cases h2⟩
theorem iP (z:ZR) (hz:z.Ok):aa Tryz.prog 167 [z.av] (zA z.val):=by
 obtain ⟨neg,n⟩:=z
 have hm:=dg neg n hz.len hz.lim
 refine Pg Tryz.func167 rfl [.cell 2 25] rfl (j0 _) ?_
 unfold ZR.val
 simp only
 obtain ⟨y,hy⟩:∃y,y=cW neg (lv 18446744073709551616 n):=⟨_,rfl⟩
 rw [←hy] at hm ⊢
 simp -implicitDefEqProofs [go_sem,ZR.av]
 refine ab hm ?_
 simp -implicitDefEqProofs [go_sem,aK,zA,ZR.av]
theorem ub (b:Bool) (x:Nat):cW (!b) x = -(cW b x):=by unfold cW; cases b<;>simp
theorem nP (z:ZR) (hz:z.Ok):aa Tryz.prog 159 [z.av] (zA (-z.val)):=by
 obtain ⟨neg,n⟩:=z
 have hm:=dg (!neg) n hz.len hz.lim
 rw [ub] at hm
 refine Pg Tryz.func159 rfl [.cell 2 25] rfl (j0 _) ?_
 unfold ZR.val
 simp only
 obtain ⟨y,hy⟩:∃y,y = -cW neg (lv 18446744073709551616 n):=⟨_,rfl⟩
 rw [←hy] at hm ⊢
 simp -implicitDefEqProofs [go_sem,ZR.av]
 refine ab hm ?_
 simp -implicitDefEqProofs [go_sem,aK,zA,ZR.av]
theorem rf (v:Int) (h : -9223372036854775808≤v∧v≤9223372036854775807):aa Tryz.prog 85 [.int .i64 v] (zA v):=by
 refine Pg Tryz.func85 rfl [.cell 2 25] rfl (j0 _) ?_
 have hof:=of_pure v.natAbs (by omega)
 have hlen:bA (ah 18446744073709551616 v.natAbs):=by unfold bA; have:=bB (B:=18446744073709551616) (n:=v.natAbs) (k:=1) (by omega) (by omega); omega
 have h1:=dg true (ah 18446744073709551616 v.natAbs) hlen (ak (by omega) _)
 have h2:=dg false (ah 18446744073709551616 v.natAbs) hlen (ak (by omega) _)
 rw [an (by omega)] at h1 h2
 simp -implicitDefEqProofs [go_sem]
 refine ⟨fun h0=>?_,fun h0=>?_⟩
 ·have e1:IntKind.u64.wrap (IntKind.u64.wrap (IntKind.i64.wrap (-IntKind.i64.wrap (v+1)))+1)=(v.natAbs:Nat):=by
   rw [bQ (x:=v+1) (by omega),bQ (by omega),aW (x := -(v+1)) (by omega),aW (by omega)]; omega
  rw [e1]
  have e2:cW true v.natAbs=v:=by unfold cW; simp only [if_true]; omega
  rw [e2] at h1
  refine ab hof ?_
  simp -implicitDefEqProofs [go_sem]
  refine ab h1 ?_
  simp -implicitDefEqProofs [go_sem,aK,zA,ZR.av]
 ·have e1:IntKind.u64.wrap v=(v.natAbs:Nat):=by rw [aW (by omega)]; omega
  rw [e1]
  have e2:cW false v.natAbs=v:=by unfold cW; simp only [Bool.false_eq_true,if_false]; omega
  rw [e2] at h2
  refine ab hof ?_
  simp -implicitDefEqProofs [go_sem]
  refine ab h2 ?_
  simp -implicitDefEqProofs [go_sem,aK,zA,ZR.av]
theorem o6 (b c:Bool) (x y:Nat):cW (b != c) (x*y)=cW b x*cW c y:=by
 unfold cW
 cases b<;>cases c<;>simp [Int.natCast_mul,Int.neg_mul,Int.mul_neg]
theorem wB (a b:ZR) (ha:a.Ok) (hb:b.Ok) (hab:kv (a.val*b.val).natAbs):aa Tryz.prog 89 [a.av,b.av] (zA (a.val*b.val)):=by
 obtain ⟨na,a⟩:=a
 obtain ⟨nb,b⟩:=b
 have h1:=qb a b ha.len hb.len ha.lim hb.lim
 unfold ZR.val at *
 simp only at *
 rw [←o6,bX] at hab
 have hm:=dg (na != nb) _ hab (ak (by omega) _)
 rw [an (by omega),o6] at hm
 refine Pg Tryz.func89 rfl [.cell 4 25] rfl (j0 _) ?_
 generalize cW na (lv 18446744073709551616 a)*cW nb (lv 18446744073709551616 b)=y at *
 generalize lv 18446744073709551616 a*lv 18446744073709551616 b=xy at *
 simp -implicitDefEqProofs [go_sem,ZR.av]
 refine ag h1 ?_
 simp -implicitDefEqProofs [go_sem]
 refine ag (show aa Tryz.prog 162 [.bool (!(na == nb)),nA (ah 18446744073709551616 xy)] (zA y) from hm) ?_
 simp -implicitDefEqProofs [go_sem,aK,zA,ZR.av]
theorem dK {x y:Nat} (h:x≤y):nl x≤nl y:=db (by omega) h
theorem kv.mono {x y:Nat} (hy:kv y) (h:x≤y):kv x:=Nat.lt_of_le_of_lt (dK h) hy
theorem jh (b:Bool):cW b 0=0:=by unfold cW; cases b<;>rfl
theorem jg (x:Int):cW (decide (x<0)) x.natAbs=x:=by
 unfold cW; simp only [decide_eq_true_eq]; split<;>omega
theorem g9 (a b:ZR) (ha:a.Ok) (hb:b.Ok) (hab:kv (a.val.natAbs+b.val.natAbs)):aa Tryz.prog 161 [a.av,b.av] (zA (a.val+b.val)):=by
 have ga:=iP a ha
 have gb:=iP b hb
 have fa:kv a.val.natAbs:=hab.mono (by omega)
 have fb:kv b.val.natAbs:=hab.mono (by omega)
 unfold ZR.av at ga gb ⊢
 generalize a.val=x at *
 generalize b.val=y at *
 obtain ⟨na,a⟩:=a
 obtain ⟨nb,b⟩:=b
 have la:=ak (B:=18446744073709551616) (by omega) x.natAbs
 have lb:=ak (B:=18446744073709551616) (by omega) y.natAbs
 have va:=an (B:=18446744073709551616) (by omega) x.natAbs
 have vb:=an (B:=18446744073709551616) (by omega) y.natAbs
 have hadd:=pu _ _ fa fb la lb
 rw [va,vb] at hadd
 have hmk:=fun neg (k:Nat) (hk:k≤x.natAbs+y.natAbs)=>dg neg (ah 18446744073709551616 k) (hab.mono hk) (ak (by omega) _)
 simp only [an (B:=18446744073709551616) (by omega)] at hmk
 have hcmp:=iT _ _ fa fb la lb
 rw [va,vb] at hcmp
 have hsub1:=qU _ _ fa fb la lb
 have hsub2:=qU _ _ fb fa lb la
 rw [va,vb] at hsub1 hsub2
 refine Pg Tryz.func161 rfl [.cell 4 25] rfl (j0 _) ?_
 simp -implicitDefEqProofs [go_sem]
 refine ag ga ?_
 simp -implicitDefEqProofs [go_sem,zA,ZR.av,zc]
 refine ag gb ?_
 simp -implicitDefEqProofs [go_sem,zA,ZR.av,zc]
 refine ⟨fun h=>?_,fun h=>?_⟩
 ·have hm:=hmk (decide (x<0)) _ (Nat.le_refl _)
  rw [show cW (decide (x<0)) (x.natAbs+y.natAbs)=x+y by unfold cW; simp only [decide_eq_true_eq]; split<;>omega] at hm
  generalize x.natAbs+y.natAbs=s at *
  refine ag hadd ?_
  simp -implicitDefEqProofs [go_sem,zA,ZR.av,zc]
  refine ag hm ?_
  simp -implicitDefEqProofs [go_sem,aK,zA,ZR.av,zc]
 ·refine ab hcmp ?_
  rcases Nat.lt_or_ge x.natAbs y.natAbs with h1|h1
  ·have hc:a8 x.natAbs y.natAbs<0:=by rw [cg (by omega)]; omega
   have hm:=hmk (decide (y<0)) (y.natAbs-x.natAbs) (by omega)
   rw [show cW (decide (y<0)) (y.natAbs-x.natAbs)=x+y by unfold cW; simp only [decide_eq_true_eq]; split<;>omega] at hm
   have hs:=hsub2 (by omega)
   generalize y.natAbs-x.natAbs=s at *
   generalize a8 x.natAbs y.natAbs=c at *
   simp -implicitDefEqProofs [go_sem,zA,ZR.av,zc,hc]
   refine ab hs ?_
   simp -implicitDefEqProofs [go_sem,zA,ZR.av,zc]
   refine ab hm ?_
   simp -implicitDefEqProofs [go_sem,aK,zA,ZR.av,zc]
  ·have hc:¬a8 x.natAbs y.natAbs<0:=by
    rcases Nat.lt_or_ge y.natAbs x.natAbs with h|h
    ·rw [bN (by omega)]; omega
    ·rw [show x.natAbs=y.natAbs by omega,dh]; omega
   have hm:=hmk (decide (x<0)) (x.natAbs-y.natAbs) (by omega)
   rw [show cW (decide (x<0)) (x.natAbs-y.natAbs)=x+y by unfold cW; simp only [decide_eq_true_eq]; split<;>omega] at hm
   have hs:=hsub1 h1
   generalize x.natAbs-y.natAbs=s at *
   generalize a8 x.natAbs y.natAbs=c at *
   simp -implicitDefEqProofs [go_sem,zA,ZR.av,zc,hc]
   refine ab hs ?_
   simp -implicitDefEqProofs [go_sem,zA,ZR.av,zc]
   refine ab hm ?_
   simp -implicitDefEqProofs [go_sem,aK,zA,ZR.av,zc]
theorem wC (a b:ZR) (ha:a.Ok) (hb:b.Ok) (hab:kv (a.val.natAbs+b.val.natAbs)):aa Tryz.prog 165 [a.av,b.av] (zA (a.val-b.val)):=by
 have hn:=nP b hb
 have fb:kv (-b.val).natAbs:=hab.mono (by omega)
 have h2:=g9 a (zc (-b.val)) ha (fU fb) (by rw [bR]; exact hab.mono (by omega))
 rw [bR,←Int.sub_eq_add_neg] at h2
 generalize a.val-b.val=y at *
 refine Pg Tryz.func165 rfl [.cell 4 25] rfl (j0 _) ?_
 change aa _ _ [a.av,zA (-b.val)] _ at h2
 generalize -b.val=z at *
 unfold zA at *
 unfold ZR.av at *
 simp -implicitDefEqProofs [go_sem]
 refine ag hn ?_
 simp -implicitDefEqProofs [go_sem]
 refine ag h2 ?_
 simp -implicitDefEqProofs [go_sem,aK]
@[go_sem] theorem HP:gv Tryz.prog 250=some .i64:=by kernel_rfl
theorem sS (x:Int):aa Tryz.prog 168 [.agg [.bool (decide (x<0)),nA (ah 18446744073709551616 x.natAbs)]] (.bool (decide (x<0))):=by
 refine Pg Tryz.func168 rfl [.tmp 2] rfl (by simp -implicitDefEqProofs [go_sem]) ?_
 simp -implicitDefEqProofs [go_sem]
theorem rd (x:Int):aa Tryz.prog 169 [.agg [.bool (decide (x<0)),nA (ah 18446744073709551616 x.natAbs)]] (.bool (decide (x=0))):=by
 refine Pg Tryz.func169 rfl [.tmp 2] rfl (by simp -implicitDefEqProofs [go_sem]) ?_
 have h:ah 18446744073709551616 x.natAbs=[]↔x=0:=by rw [aH (by omega)]; omega
 simp -implicitDefEqProofs [go_sem,h]
def dM (x:Int):Int:=if x<0 then -1 else if x=0 then 0 else 1
theorem iQ (z:ZR) (hz:z.Ok):aa Tryz.prog 93 [z.av] (.int .i64 (dM z.val)):=by
 have hg:=iP z hz
 have h1:=sS z.val
 have h2:=rd z.val
 generalize z.val=x at *
 refine Pg Tryz.func93 rfl [.tmp 2] rfl (by simp -implicitDefEqProofs [go_sem]) ?_
 unfold zA at *
 unfold ZR.av at *
 unfold zc at *
 simp only at *
 generalize ah 18446744073709551616 x.natAbs=L at *
 simp -implicitDefEqProofs [go_sem]
 refine ab hg ?_
 simp -implicitDefEqProofs [go_sem]
 obtain ⟨N,hN⟩:∃N,N=AV.agg [AV.bool (decide (x<0)),nA L]:=⟨_,rfl⟩
 have hroN:ro N:=by rw [hN]; simp -implicitDefEqProofs [go_sem]
 obtain ⟨T,hT⟩:∃T,T=ap (ap (ap (fun _=>AV.any) 0 (.fn (.func 168) [N] [])) 1 (.fn (.func 169) [N] [])) 2 (.fn (.func 170) [N] []):=⟨_,rfl⟩
 have hro:∀j,ro (T j):=by
  intro j
  rw [hT]
  simp only [ap]
  split
  ·simp -implicitDefEqProofs [go_sem,hroN]
  ·split
   ·simp -implicitDefEqProofs [go_sem,hroN]
   ·split<;>simp -implicitDefEqProofs [go_sem,hroN]
 have T0:T 0 = .fn (.func 168) [N] []:=by rw [hT]; simp -implicitDefEqProofs [go_sem]
 have T1:T 1 = .fn (.func 169) [N] []:=by rw [hT]; simp -implicitDefEqProofs [go_sem]
 rw [←hN] at h1 h2
 refine aj 9 (α:={s:Nat // s≤2∧(1≤s→¬x<0)∧(2≤s→x≠0)}) (fun s=>[(4,.mp 2),(5,.int .i64 ((s.1:Int)-1))]) (fun s=>[(2,.obj (.map #[⟨.int .i64 (-1),undef,0⟩,⟨.int .i64 0,undef,1⟩,⟨.int .i64 1,undef,2⟩] 3) T)]) (fun s=>2-s.1) ⟨0,by omega,by omega,by omega⟩ [] (by simp) (by simp) (by omega) (by simp -implicitDefEqProofs [go_sem]) (by simp -implicitDefEqProofs [go_sem,hT,hN]; exact fun j=>by have:=hro j; rw [hT,hN] at this; exact this) fun ⟨s,q1,q2,q3⟩=>?_
 have hs:s=0∨s=1∨s=2:=by omega
 rcases hs with rfl|rfl|rfl
 ·simp -implicitDefEqProofs [go_sem,T0]
  refine ao _ h1 (by simp [go_sem,hroN]) ?_
  simp -implicitDefEqProofs [go_sem]
  refine ⟨fun h=>?_,fun h=>?_⟩
  ·simp [dM,h]
  ·exact ac ⟨1,by omega,fun _=>by omega,by omega⟩ (by simp only; omega) [] (by simp) (by simp) (by omega) (by simp -implicitDefEqProofs [go_sem]; rfl) (by simp -implicitDefEqProofs [go_sem,hro])
 ·simp -implicitDefEqProofs [go_sem,T1]
  refine ao _ h2 (by simp [go_sem,hroN]) ?_
  simp -implicitDefEqProofs [go_sem]
  refine ⟨fun h=>?_,fun h=>?_⟩
  ·simp [dM,h]
  ·exact ac ⟨2,by omega,fun _=>q2 (by omega),fun _=>h⟩ (by simp only; omega) [] (by simp) (by simp) (by omega) (by simp -implicitDefEqProofs [go_sem]; rfl) (by simp -implicitDefEqProofs [go_sem,hro])
 ·simp -implicitDefEqProofs [go_sem]
  have g1:=q2 (by omega)
  have g2:=q3 (by omega)
  simp [dM,g1,g2]
theorem qP {x y:Int}:dM (x-y)=a8 x y:=by
 unfold dM a8; split<;>split<;>(try split)<;>omega
theorem wA (a b:ZR) (ha:a.Ok) (hb:b.Ok) (hab:kv (a.val.natAbs+b.val.natAbs)):aa Tryz.prog 88 [a.av,b.av] (.int .i64 (a8 a.val b.val)):=by
 have h1:=wC a b ha hb hab
 have h2:=iQ (zc (a.val-b.val)) (fU (hab.mono (by omega)))
 rw [bR,qP] at h2
 generalize a8 a.val b.val=c at *
 change aa _ _ [zA (a.val-b.val)] _ at h2
 generalize a.val-b.val=z at *
 refine Pg Tryz.func88 rfl [.tmp 4] rfl (by simp -implicitDefEqProofs [go_sem]) ?_
 unfold zA at *
 unfold ZR.av at *
 simp -implicitDefEqProofs [go_sem]
 refine ab h1 ?_
 simp -implicitDefEqProofs [go_sem]
 refine ab h2 ?_
 simp -implicitDefEqProofs [go_sem]
structure RQ where
 neg:Bool
 p:List Nat
 q:List Nat
def RQ.av (z:RQ):AV := .agg [.bool z.neg,nA z.p,nA z.q]
def RQ.num (z:RQ):Int:=cW z.neg (lv 18446744073709551616 z.p)
def RQ.den (z:RQ):Nat:=if lv 18446744073709551616 z.q=0 then 1 else lv 18446744073709551616 z.q
def RQ.val (z:RQ):Rat:=mkRat z.num z.den
structure RQ.Ok (z:RQ):Prop where
 lenp:bA z.p
 limp:aN 18446744073709551616 z.p
 lenq:bA z.q
 limq:aN 18446744073709551616 z.q
def qc (x:Rat):RQ:=⟨decide (x.num<0),ah 18446744073709551616 x.num.natAbs,ah 18446744073709551616 x.den⟩
def rA (x:Rat):AV:=(qc x).av
theorem bI (x:Rat):ro (rA x):=by unfold rA RQ.av; simp -implicitDefEqProofs [go_sem]
theorem BH (z:RQ):ro z.av:=by unfold RQ.av; simp -implicitDefEqProofs [go_sem]
theorem C3 (x:Rat):(qc x).num=x.num:=by
 unfold RQ.num qc; simp only [an (B:=18446744073709551616) (by omega)]; exact jg _
theorem C2 (x:Rat):(qc x).den=x.den:=by
 unfold RQ.den qc; simp only [an (B:=18446744073709551616) (by omega)]
 rw [if_neg x.den_nz]
theorem bD (x:Rat):(qc x).val=x:=by
 unfold RQ.val; rw [C3,C2]; exact Rat.mkRat_self x
theorem oH (n:Int) {d:Nat} (h:d≠0):(mkRat n d).num=n / (Nat.gcd n.natAbs d:Nat):=by
 rw [←Rat.normalize_eq_mkRat h,Rat.normalize_eq]
theorem se (n:Int) {d:Nat} (h:d≠0):(mkRat n d).den=d / Nat.gcd n.natAbs d:=by
 rw [←Rat.normalize_eq_mkRat h,Rat.normalize_eq]
theorem ua (b:Bool) {x g:Nat} (h:g ∣ x):cW b (x / g)=cW b x / (g:Int):=by
 unfold cW
 cases b
 ·simp
 ·simp only [if_true]
  rw [Int.neg_ediv_of_dvd (Int.natCast_dvd_natCast.2 h)]; simp
theorem nt (z:ZR) (q:List Nat) (hz:z.Ok) (hq:bA q) (lq:aN 18446744073709551616 q) (h0:lv 18446744073709551616 q≠0):aa Tryz.prog 160 [z.av,nA q] (rA (mkRat z.val (lv 18446744073709551616 q))):=by
 obtain ⟨neg,p⟩:=z
 have hlp:=hz.len
 have hll:=hz.lim
 simp only at hlp hll
 have hg:=xC p q hlp hq hll lq
 obtain ⟨g,hgg⟩:∃g,g=Nat.gcd (lv 18446744073709551616 p) (lv 18446744073709551616 q):=⟨_,rfl⟩
 have hg0:g≠0:=by rw [hgg]; exact Nat.gcd_ne_zero_right h0
 have hgp:g ∣ lv 18446744073709551616 p:=by rw [hgg]; exact Nat.gcd_dvd_left _ _
 have hgl:g≤lv 18446744073709551616 q:=by rw [hgg]; exact Nat.le_of_dvd (Nat.pos_iff_ne_zero.2 h0) (Nat.gcd_dvd_right _ _)
 have hfq:kv (lv 18446744073709551616 q):=cD hq lq
 have hfp:kv (lv 18446744073709551616 p):=cD hlp hll
 have hd1:=gg p (ah 18446744073709551616 g) hlp (hfq.mono hgl) hll (ak (by omega) _) (by rw [an (by omega)]; exact hg0)
 have hd2:=gg q (ah 18446744073709551616 g) hq (hfq.mono hgl) lq (ak (by omega) _) (by rw [an (by omega)]; exact hg0)
 rw [an (by omega)] at hd1 hd2
 rw [←hgg] at hg
 have ha:=g9 ⟨neg,ah 18446744073709551616 (lv 18446744073709551616 p / g)⟩ ⟨false,[]⟩ ⟨hfp.mono (Nat.div_le_self _ _),ak (by omega) _⟩ ⟨by unfold bA; simp,cG⟩ (by
  unfold ZR.val
  simp only [an (B:=18446744073709551616) (by omega),cA,bX]
  exact hfp.mono (Nat.div_le_self _ _))
 have hv:ZR.val ⟨neg,ah 18446744073709551616 (lv 18446744073709551616 p / g)⟩+ZR.val ⟨false,[]⟩=(mkRat (cW neg (lv 18446744073709551616 p)) (lv 18446744073709551616 q)).num:=by
  rw [oH _ h0,bX,←hgg,←ua neg hgp]
  unfold ZR.val
  simp only [an (B:=18446744073709551616) (by omega),cA,jh,Int.add_zero]
 have hvd:(mkRat (cW neg (lv 18446744073709551616 p)) (lv 18446744073709551616 q)).den=lv 18446744073709551616 q / g:=by
  rw [se _ h0,bX,←hgg]
 rw [hv] at ha
 unfold rA RQ.av qc ZR.val
 simp only
 rw [hvd]
 generalize (mkRat (cW neg (lv 18446744073709551616 p)) (lv 18446744073709551616 q)).num=N at *
 generalize lv 18446744073709551616 q / g=D at *
 generalize lv 18446744073709551616 p / g=U at *
 generalize lv 18446744073709551616 p%g=U1 at *
 generalize lv 18446744073709551616 q%g=D1 at *
 unfold zA ZR.av zc at *
 simp only at *
 refine Pg Tryz.func160 rfl [.cell 4 27] rfl (by simp -implicitDefEqProofs [go_sem]) ?_
 simp -implicitDefEqProofs [go_sem]
 refine ab hg ?_
 simp -implicitDefEqProofs [go_sem]
 refine ab hd1 ?_
 simp -implicitDefEqProofs [go_sem]
 refine ab hd2 ?_
 simp -implicitDefEqProofs [go_sem]
 refine ab (ha.args (.cons (Wk.refl _) (.cons (Wk.agg (.cons (Wk.refl _) (.cons (Wk.nil 0 1 true) .nil))) .nil))) ?_
 simp -implicitDefEqProofs [go_sem,aK]
theorem C4 (x:Int):rA (x:Rat) = .agg [.bool (decide (x<0)),nA (ah 18446744073709551616 x.natAbs),nA (ah 18446744073709551616 1)]:=by
 have h:qc (x:Rat)=⟨decide (x<0),ah 18446744073709551616 x.natAbs,ah 18446744073709551616 1⟩:=by
  have h1:(x:Rat).num=x:=Rat.num_intCast x
  have h2:(x:Rat).den=1:=Rat.den_intCast x
  unfold qc
  rw [h1,h2]
 unfold rA; rw [h]; rfl
theorem sQ (x:Int):aa Tryz.prog 86 [zA x] (rA (x:Rat)):=by
 have hof:=of_pure 1 (by omega)
 refine Pg Tryz.func86 rfl [.cell 2 27] rfl (bI _) ?_
 rw [C4]
 unfold zA ZR.av zc
 generalize ah 18446744073709551616 1=o at *
 simp -implicitDefEqProofs [go_sem]
 refine ag hof ?_
 simp -implicitDefEqProofs [go_sem,aK]
theorem uz {x:Nat}:bh x=0↔x=0:=by
 unfold bh; split<;>omega
theorem bU (z:RQ) (hz:z.Ok):aa Tryz.prog 87 [z.av] (rA z.val):=by
 have ha:=g9 ⟨z.neg,z.p⟩ ⟨false,[]⟩ ⟨hz.lenp,hz.limp⟩ ⟨by unfold bA; simp,cG⟩ (by
  unfold ZR.val
  simp only [cA,bX,Nat.add_zero]
  exact cD hz.lenp hz.limp)
 have hv:ZR.val ⟨z.neg,z.p⟩+ZR.val ⟨false,[]⟩=z.num:=by
  unfold ZR.val RQ.num
  simp only [cA,jh,Int.add_zero]
 rw [hv] at ha
 have hb:=uu z.q hz.lenq hz.limq
 have hw:=sQ z.num
 have hfn:kv z.num.natAbs:=by
  unfold RQ.num; rw [bX]; exact cD hz.lenp hz.limp
 have hm:=nt (zc z.num) z.q (fU hfn) hz.lenq hz.limq
 rw [bR] at hm
 change _→aa _ _ [zA z.num,_] _ at hm
 have hval:z.val=if lv 18446744073709551616 z.q=0 then (z.num:Rat) else mkRat z.num (lv 18446744073709551616 z.q):=by
  unfold RQ.val RQ.den
  split
  ·exact Rat.mkRat_one _
  ·rfl
 rw [hval]
 refine Pg Tryz.func87 rfl [.cell 2 27] rfl (bI _) ?_
 have hbz := @uz (lv 18446744073709551616 z.q)
 generalize bh (lv 18446744073709551616 z.q)=bl at *
 generalize lv 18446744073709551616 z.q=Q at *
 generalize z.num=N at *
 unfold zA ZR.av zc RQ.av at *
 simp only at *
 generalize ah 18446744073709551616 N.natAbs=L at *
 simp -implicitDefEqProofs [go_sem]
 refine ab (ha.args (.cons (Wk.refl _) (.cons (Wk.agg (.cons (Wk.refl _) (.cons (Wk.nil 0 1 true) .nil))) .nil))) ?_
 simp -implicitDefEqProofs [go_sem]
 refine ab hb ?_
 simp -implicitDefEqProofs [go_sem]
 refine ⟨fun h=>?_,fun h=>?_⟩
 ·rw [if_pos (hbz.1 (by omega))]
  refine ab hw ?_
  unfold rA RQ.av qc
  simp -implicitDefEqProofs [go_sem,aK]
 ·have h0:¬Q=0:=fun hh=>h (by have:=hbz.2 hh; omega)
  rw [if_neg h0]
  refine ab (hm h0) ?_
  unfold rA RQ.av qc
  simp -implicitDefEqProofs [go_sem,aK]
theorem vM (z:RQ):aa Tryz.prog 90 [z.av] (ZR.av ⟨false,z.q⟩):=by
 refine Pg Tryz.func90 rfl [.cell 2 25] rfl (GG _) ?_
 unfold RQ.av ZR.av
 simp -implicitDefEqProofs [go_sem,aK]
theorem pn (n:Nat):zA (n:Int)=ZR.av ⟨false,ah 18446744073709551616 n⟩:=by
 unfold zA zc
 have h:decide ((n:Int)<0)=false:=by simp
 rw [h]; rfl
theorem gR (x:Rat):aa Tryz.prog 90 [rA x] (zA (x.den:Int)):=by
 rw [pn]; exact vM (qc x)
theorem qf {x:Nat}:x<18446744073709551616 ^ nl x:=by
 have:=bF (ak (B:=18446744073709551616) (by omega) x)
 rwa [an (by omega)] at this
theorem qe {x k:Nat} (h:x<18446744073709551616 ^ k):nl x≤k:=bB (by omega) h
theorem bG (x y:Nat):nl (x*y)≤nl x+nl y:=by
 refine qe ?_
 rw [Nat.pow_add]
 exact Nat.mul_lt_mul'' qf qf
theorem oJ (x y:Nat):nl (x+y)≤max (nl x) (nl y)+1:=by
 refine qe ?_
 have h1:x<18446744073709551616 ^ max (nl x) (nl y):=Nat.lt_of_lt_of_le qf (Nat.pow_le_pow_right (by omega) (Nat.le_max_left _ _))
 have h2:y<18446744073709551616 ^ max (nl x) (nl y):=Nat.lt_of_lt_of_le qf (Nat.pow_le_pow_right (by omega) (Nat.le_max_right _ _))
 rw [Nat.pow_succ]
 generalize 18446744073709551616 ^ max (nl x) (nl y)=w at *
 omega
theorem tH:nl 0=0:=by unfold nl; rw [aD]; rfl
theorem fK:nl 1=1:=by unfold nl; rw [cI (by omega) (by omega) (by omega)]; rfl
theorem jY {l:List Nat} (h:aN 18446744073709551616 l):nl (lv 18446744073709551616 l)≤l.length:=bB (by omega) (bF h)
def sz (x:Rat):Nat:=max (nl x.num.natAbs) (nl x.den)
theorem bz (x:Rat):nl x.num.natAbs≤sz x:=Nat.le_max_left _ _
theorem bv (x:Rat):nl x.den≤sz x:=Nat.le_max_right _ _
structure RQ.Sm (z:RQ):Prop where
 lp:z.p.length≤17179869184
 limp:aN 18446744073709551616 z.p
 lq:z.q.length≤17179869184
 limq:aN 18446744073709551616 z.q
theorem RQ.Sm.ok {z:RQ} (h:z.Sm):z.Ok:=⟨by unfold bA; have:=h.lp; omega,h.limp,by unfold bA; have:=h.lq; omega,h.limq⟩
theorem mj (n:Int) {d:Nat} (h:d≠0):sz (mkRat n d)≤max (nl n.natAbs) (nl d):=by
 have h1:nl (mkRat n d).num.natAbs≤nl n.natAbs:=by
  rw [oH n h]
  refine dK ?_
  rw [Int.natAbs_ediv_of_dvd (Int.ofNat_dvd_left.2 (Nat.gcd_dvd_left _ _))]
  exact Nat.div_le_self _ _
 have h2:nl (mkRat n d).den≤nl d:=by
  rw [se n h]
  exact dK (Nat.div_le_self _ _)
 unfold sz
 omega
theorem RQ.den_ne (z:RQ):z.den≠0:=by unfold RQ.den; split<;>omega
theorem eK {z:RQ} (h:z.Sm):sz z.val≤17179869184:=by
 have h1:=mj z.num z.den_ne
 have h2:nl z.num.natAbs≤z.p.length:=by unfold RQ.num; rw [bX]; exact jY h.limp
 have h3:nl z.den≤max 1 z.q.length:=by
  unfold RQ.den; split
  ·rw [fK]; omega
  ·have:=jY h.limq; omega
 have:=h.lp
 have:=h.lq
 unfold RQ.val
 omega
theorem dZ {x:Rat} (h:sz x≤17179869184):(qc x).Sm:=⟨Nat.le_trans (bz x) h,ak (by omega) _,Nat.le_trans (bv x) h,ak (by omega) _⟩
theorem sz_neg (x:Rat):sz (-x)=sz x:=by unfold sz; rw [Rat.neg_num,Rat.neg_den,Int.natAbs_neg]
theorem yq (x y:Rat):x*y=mkRat (x.num*y.num) (x.den*y.den):=by rw [Rat.mul_def,Rat.normalize_eq_mkRat]
theorem wI (x y:Rat):x+y=mkRat (x.num*y.den+y.num*x.den) (x.den*y.den):=by rw [Rat.add_def,Rat.normalize_eq_mkRat]
theorem fF (x y:Rat):x.den*y.den≠0:=Nat.mul_ne_zero x.den_nz y.den_nz
theorem cL (x y:Rat):sz (x*y)≤sz x+sz y:=by
 rw [yq]
 have h:=mj (x.num*y.num) (fF x y)
 have h1:=bG x.num.natAbs y.num.natAbs
 have h2:=bG x.den y.den
 rw [Int.natAbs_mul] at h
 have:=bz x; have:=bz y; have:=bv x; have:=bv y
 omega
theorem sz_add (x y:Rat):sz (x+y)≤sz x+sz y+1:=by
 rw [wI]
 have h:=mj (x.num*y.den+y.num*x.den) (fF x y)
 have h1:=bG x.num.natAbs y.den
 have h2:=bG y.num.natAbs x.den
 have h3:=bG x.den y.den
 have h4:(x.num*y.den+y.num*x.den).natAbs≤x.num.natAbs*y.den+y.num.natAbs*x.den:=by
  refine Nat.le_trans (Int.natAbs_add_le _ _) ?_
  rw [Int.natAbs_mul,Int.natAbs_mul]; simp
 have h5:=dK h4
 have h6:=oJ (x.num.natAbs*y.den) (y.num.natAbs*x.den)
 have:=bz x; have:=bz y; have:=bv x; have:=bv y
 omega
theorem sz_sub (x y:Rat):sz (x-y)≤sz x+sz y+1:=by
 rw [Rat.sub_eq_add_neg]; have:=sz_add x (-y); rw [sz_neg] at this; exact this
theorem sN (n:Int):sz (n:Rat)=max (nl n.natAbs) 1:=by
 unfold sz; rw [Rat.num_intCast,Rat.den_intCast,fK]
theorem mz (x y:Int) (h:nl x.natAbs+nl y.natAbs<1099511627776):aa Tryz.prog 89 [zA x,zA y] (zA (x*y)):=by
 have h1:kv x.natAbs:=by rw [fH]; omega
 have h2:kv y.natAbs:=by rw [fH]; omega
 have h3:kv (x*y).natAbs:=by rw [fH,Int.natAbs_mul]; have:=bG x.natAbs y.natAbs; omega
 have:=wB (zc x) (zc y) (fU h1) (fU h2) (by rw [bR,bR]; exact h3)
 rw [bR,bR] at this
 exact this
theorem BP (x y:Int) (h:max (nl x.natAbs) (nl y.natAbs)+1<1099511627776):aa Tryz.prog 161 [zA x,zA y] (zA (x+y)):=by
 have h1:kv x.natAbs:=by rw [fH]; omega
 have h2:kv y.natAbs:=by rw [fH]; omega
 have h3:kv (x.natAbs+y.natAbs):=by rw [fH]; have:=oJ x.natAbs y.natAbs; omega
 have:=g9 (zc x) (zc y) (fU h1) (fU h2) (by rw [bR,bR]; exact h3)
 rw [bR,bR] at this
 exact this
theorem GZ (x y:Int) (h:max (nl x.natAbs) (nl y.natAbs)+1<1099511627776):aa Tryz.prog 88 [zA x,zA y] (.int .i64 (a8 x y)):=by
 have h1:kv x.natAbs:=by rw [fH]; omega
 have h2:kv y.natAbs:=by rw [fH]; omega
 have h3:kv (x.natAbs+y.natAbs):=by rw [fH]; have:=oJ x.natAbs y.natAbs; omega
 have:=wA (zc x) (zc y) (fU h1) (fU h2) (by rw [bR,bR]; exact h3)
 rw [bR,bR] at this
 exact this
theorem BQ (x:Int) (h:nl x.natAbs<1099511627776):aa Tryz.prog 159 [zA x] (zA (-x)):=by
 have:=nP (zc x) (fU h)
 rw [bR] at this
 exact this
theorem Dz (x:Int) (h:nl x.natAbs<1099511627776):aa Tryz.prog 93 [zA x] (.int .i64 (dM x)):=by
 have:=iQ (zc x) (fU h)
 rw [bR] at this
 exact this
theorem yi (x:Int) (d:Nat) (h:nl x.natAbs<1099511627776) (hd:nl d<1099511627776) (h0:d≠0):aa Tryz.prog 160 [zA x,nA (ah 18446744073709551616 d)] (rA (mkRat x d)):=by
 have:=nt (zc x) (ah 18446744073709551616 d) (fU h) hd (ak (by omega) _) (by rw [an (by omega)]; exact h0)
 rw [bR,an (by omega)] at this
 exact this
theorem By (x y:Nat) (h:nl x+nl y<1099511627776):aa Tryz.prog 166 [nA (ah 18446744073709551616 x),nA (ah 18446744073709551616 y)] (nA (ah 18446744073709551616 (x*y))):=by
 have:=qb (ah 18446744073709551616 x) (ah 18446744073709551616 y) (show nl x<_ by omega) (show nl y<_ by omega) (ak (by omega) _) (ak (by omega) _)
 rw [an (by omega),an (by omega)] at this
 exact this
theorem vT {n:Int} {g:Nat} (hg:0<g) (h:g ∣ n.natAbs):dM (n / (g:Int))=dM n:=by
 obtain ⟨k,hk⟩:=Int.ofNat_dvd_left.2 h
 rw [hk,Int.mul_ediv_cancel_left _ (by omega)]
 unfold dM
 have h1:(g:Int)*k<0↔k<0:=by
  constructor
  ·intro h; rcases Int.lt_or_le k 0 with h2|h2
   ·exact h2
   ·have:=Int.mul_nonneg (Int.natCast_nonneg g) h2; omega
  ·intro h; exact Int.mul_neg_of_pos_of_neg (by omega) h
 have h2:(g:Int)*k=0↔k=0:=by
  rw [Int.mul_eq_zero]; omega
 simp only [h1,h2]
def dC (x:Rat):Int:=dM x.num
theorem y_ (z:RQ):dC z.val=dM z.num:=by
 unfold dC RQ.val
 rw [oH _ z.den_ne]
 exact vT (Nat.gcd_pos_of_pos_right _ (Nat.pos_iff_ne_zero.2 z.den_ne)) (Nat.gcd_dvd_left _ _)
theorem cK (z:RQ) (hz:z.Ok):aa Tryz.prog 34 [z.av] (.int .i64 (dC z.val)):=by
 rw [y_]
 have h:=iQ ⟨z.neg,z.p⟩ ⟨hz.lenp,hz.limp⟩
 change aa _ _ _ (.int .i64 (dM z.num)) at h
 generalize dM z.num=s at *
 refine Pg Tryz.func34 rfl [.tmp 2] rfl (by simp -implicitDefEqProofs [go_sem]) ?_
 unfold RQ.av ZR.av at *
 simp only at *
 simp -implicitDefEqProofs [go_sem]
 refine ab h ?_
 simp -implicitDefEqProofs [go_sem]
def c9 (x y:Rat):Int:=a8 (x.num*y.den) (y.num*x.den)
theorem gV (a b:RQ) (ha:a.Sm) (hb:b.Sm):aa Tryz.prog 31 [a.av,b.av] (.int .i64 (c9 a.val b.val)):=by
 have ga:=bU a ha.ok
 have gb:=bU b hb.ok
 have sa:=eK ha
 have sb:=eK hb
 generalize a.val=x at *
 generalize b.val=y at *
 have:=bz x; have:=bz y; have:=bv x; have:=bv y
 have oa:=gR x
 have ob:=gR y
 have m1:=mz x.num y.den (by simp; omega)
 have m2:=mz y.num x.den (by simp; omega)
 have hc:=GZ (x.num*y.den) (y.num*x.den) (by
  have h1:=bG x.num.natAbs y.den
  have h2:=bG y.num.natAbs x.den
  rw [Int.natAbs_mul,Int.natAbs_mul]; simp; omega)
 unfold c9
 generalize x.num*y.den=u at *
 generalize y.num*x.den=w at *
 generalize a8 u w=c at *
 refine Pg Tryz.func31 rfl [.tmp 4] rfl (by simp -implicitDefEqProofs [go_sem]) ?_
 rw [pn] at oa ob m1 m2
 unfold rA RQ.av qc zA ZR.av zc at *
 simp only at *
 simp -implicitDefEqProofs [go_sem]
 refine ag ga ?_
 simp -implicitDefEqProofs [go_sem]
 refine ag gb ?_
 simp -implicitDefEqProofs [go_sem]
 refine ag ob ?_
 simp -implicitDefEqProofs [go_sem]
 refine ag m1 ?_
 simp -implicitDefEqProofs [go_sem]
 refine ag oa ?_
 simp -implicitDefEqProofs [go_sem]
 refine ag m2 ?_
 simp -implicitDefEqProofs [go_sem]
 refine ag hc ?_
 simp -implicitDefEqProofs [go_sem]
def rZ:AV := .agg [.bool false,.sl 0 true [],.sl 0 true []]
theorem n8 (p q:Int):(p:Rat) / (q:Rat)=mkRat (if q<0 then -p else p) q.natAbs:=by
 rw [Rat.mkRat_eq_div]
 split
 ·rename_i h
  have:((q.natAbs:Nat):Rat) = -(q:Rat):=by
   rw [←Rat.intCast_natCast,Int.ofNat_natAbs_of_nonpos (by omega),Rat.intCast_neg]
  rw [this,Rat.intCast_neg]
  grind
 ·rename_i h
  have:((q.natAbs:Nat):Rat)=(q:Rat):=by
   rw [←Rat.intCast_natCast,Int.natAbs_of_nonneg (by omega)]
  rw [this]
theorem nu (p q:Int) (hp:nl p.natAbs+1<1099511627776) (hq:nl q.natAbs<1099511627776) :
 aa Tryz.prog 84 [zA p,zA q] (if q=0 then .tup [rZ,.int .i64 12] else .tup [rA ((p:Rat) / (q:Rat)),.int .i64 0]):=by
 have hs:=Dz q hq
 have hn:=BQ p (by omega)
 have hz:∀x:Int,x.natAbs=p.natAbs→aa Tryz.prog 161 [zA x,.agg [.bool false,.sl 0 true []]] (zA x):=fun x hx=>by
  have:=BP x 0 (by rw [hx,show (0:Int).natAbs=0 from rfl,tH]; omega)
  rw [Int.add_zero] at this
  refine this.args (.cons (Wk.refl _) (.cons ?_ .nil))
  unfold zA ZR.av zc
  rw [show (0:Int).natAbs=0 from rfl,aD]
  exact Wk.agg (.cons (Wk.refl _) (.cons (Wk.nil 0 1 true) .nil))
 have hm:∀x:Int,x.natAbs=p.natAbs→q≠0→aa Tryz.prog 160 [zA x,nA (ah 18446744073709551616 q.natAbs)] (rA (mkRat x q.natAbs)):=fun x hx h0=>yi x q.natAbs (by rw [hx]; omega) hq (by omega)
 by_cases h0:q=0
 ·rw [if_pos h0]
  subst h0
  unfold dM at hs
  simp only [Int.lt_irrefl,if_false,if_true] at hs
  refine Pg Tryz.func84 rfl [.cell 4 27,.tmp 5] rfl (by simp -implicitDefEqProofs [go_sem,rZ]) ?_
  unfold zA ZR.av zc rZ at *
  simp -implicitDefEqProofs [go_sem]
  refine ab hs ?_
  simp -implicitDefEqProofs [go_sem,aK]
 ·rw [if_neg h0,n8]
  by_cases h1:q<0
  ·rw [if_pos h1]
   have hm1:=hm (-p) (by omega) h0
   have hz1:=hz (-p) (by omega)
   rw [show dM q = -1 by unfold dM; rw [if_pos h1]] at hs
   generalize mkRat (-p) q.natAbs=r at *
   refine Pg Tryz.func84 rfl [.cell 4 27,.tmp 5] rfl (by simp -implicitDefEqProofs [go_sem,bI]) ?_
   clear hz hm
   generalize -p=p2 at *
   unfold zA ZR.av zc rA RQ.av qc at *
   simp only at *
   simp -implicitDefEqProofs [go_sem]
   refine ab hs ?_
   simp -implicitDefEqProofs [go_sem]
   refine ab hn ?_
   simp -implicitDefEqProofs [go_sem]
   refine ag hz1 ?_
   simp -implicitDefEqProofs [go_sem]
   refine ag hm1 ?_
   simp -implicitDefEqProofs [go_sem,aK]
  ·rw [if_neg h1]
   have hm1:=hm p rfl h0
   have hz1:=hz p rfl
   rw [show dM q=1 by unfold dM; rw [if_neg h1,if_neg h0]] at hs
   generalize mkRat p q.natAbs=r at *
   refine Pg Tryz.func84 rfl [.cell 4 27,.tmp 5] rfl (by simp -implicitDefEqProofs [go_sem,bI]) ?_
   clear hz hm
   unfold zA ZR.av zc rA RQ.av qc at *
   simp only at *
   simp -implicitDefEqProofs [go_sem]
   refine ab hs ?_
   simp -implicitDefEqProofs [go_sem]
   refine ag hz1 ?_
   simp -implicitDefEqProofs [go_sem]
   refine ag hm1 ?_
   simp -implicitDefEqProofs [go_sem,aK]
theorem iI {p:Int} (h : -9223372036854775808≤p∧p≤9223372036854775807):nl p.natAbs≤1:=qe (by omega)
theorem gz (p q:Int) (hp : -9223372036854775808≤p∧p≤9223372036854775807) (hq : -9223372036854775808≤q∧q≤9223372036854775807) (h0:q≠0) :
 aa Tryz.prog 30 [.int .i64 p,.int .i64 q] (rA ((p:Rat) / (q:Rat))):=by
 have h1:=rf p hp
 have h2:=rf q hq
 have hm:=nu p q (by have:=iI hp; omega) (by have:=iI hq; omega)
 rw [if_neg h0] at hm
 generalize (p:Rat) / (q:Rat)=r at *
 refine Pg Tryz.func30 rfl [.cell 4 27] rfl (bI _) ?_
 unfold zA ZR.av zc rA RQ.av qc at *
 simp only at *
 simp -implicitDefEqProofs [go_sem]
 refine ab h1 ?_
 simp -implicitDefEqProofs [go_sem]
 refine ab h2 ?_
 simp -implicitDefEqProofs [go_sem]
 refine ab hm ?_
 simp -implicitDefEqProofs [go_sem,aK]
theorem tI (x:Rat):x=(x.num:Rat) / (x.den:Rat):=by
 rw [←Rat.mkRat_eq_div,Rat.mkRat_self]
theorem gX (a b:RQ) (ha:a.Sm) (hb:b.Sm):aa Tryz.prog 130 [a.av,b.av] (if b.val=0 then .tup [rZ,.int .i64 12] else .tup [rA (a.val / b.val),.int .i64 0]):=by
 have ga:=bU a ha.ok
 have gb:=bU b hb.ok
 have sa:=eK ha
 have sb:=eK hb
 generalize a.val=x at *
 generalize b.val=y at *
 have:=bz x; have:=bz y; have:=bv x; have:=bv y
 have oa:=gR x
 have ob:=gR y
 have m1:=mz x.num y.den (by simp; omega)
 have m2:=mz y.num x.den (by simp; omega)
 have hm:=nu (x.num*y.den) (y.num*x.den) (by
  have h1:=bG x.num.natAbs y.den
  rw [Int.natAbs_mul]; simp; omega) (by
  have h2:=bG y.num.natAbs x.den
  rw [Int.natAbs_mul]; simp; omega)
 have hy0:y.num*x.den=0↔y=0:=by
  rw [Int.mul_eq_zero,Rat.num_eq_zero]
  have:=x.den_nz
  constructor
  ·rintro (h|h)
   ·exact h
   ·exact absurd (by omega) this
  ·exact .inl
 have hv:((x.num*y.den:Int):Rat) / ((y.num*x.den:Int):Rat)=x / y:=by
  have h1:x=(x.num:Rat) / (x.den:Rat):=tI x
  have h2:y=(y.num:Rat) / (y.den:Rat):=tI y
  have h3:(x.den:Rat)≠0:=by simpa using x.den_nz
  have h4:(y.den:Rat)≠0:=by simpa using y.den_nz
  rw [Rat.intCast_mul,Rat.intCast_mul,Rat.intCast_natCast,Rat.intCast_natCast]
  conv=>rhs; rw [h1,h2]
  generalize (x.num:Rat)=a at *
  generalize (y.num:Rat)=b at *
  generalize (x.den:Rat)=c at *
  generalize (y.den:Rat)=d at *
  clear h1 h2 m1 m2 hm
  grind
 rw [hv] at hm
 simp only [hy0] at hm
 refine Pg Tryz.func130 rfl [.cell 4 27,.tmp 5] rfl (by split<;>simp -implicitDefEqProofs [go_sem,rZ,bI]) ?_
 clear hy0 hv
 generalize x.num*y.den=u at *
 generalize y.num*x.den=w at *
 rw [pn] at oa ob m1 m2
 have hcs:(if y=0 then AV.tup [rZ,.int .i64 12] else .tup [rA (x / y),.int .i64 0]) = .tup [if y=0 then rZ else rA (x / y),.int .i64 (if y=0 then 12 else 0)]:=by split<;>rfl
 rw [hcs] at hm ⊢
 generalize hR:(if y=0 then rZ else rA (x / y))=R at *
 obtain ⟨r1,s2,t2,l2,s3,t3,l3,hRe⟩:∃r1 s2 t2 l2 s3 t3 l3,R = .agg [.bool r1,.sl s2 t2 (uA .u64 l2),.sl s3 t3 (uA .u64 l3)]:=by
  rw [←hR]; split
  ·exact ⟨_,_,_,[],_,_,[],rfl⟩
  ·exact ⟨_,_,_,_,_,_,_,rfl⟩
 subst hRe
 generalize (if y=0 then (12:Int) else 0)=e at *
 unfold rA RQ.av qc zA ZR.av zc at *
 simp only at *
 simp -implicitDefEqProofs [go_sem]
 refine ag ga ?_
 simp -implicitDefEqProofs [go_sem]
 refine ag gb ?_
 simp -implicitDefEqProofs [go_sem]
 refine ag ob ?_
 simp -implicitDefEqProofs [go_sem]
 refine ag m1 ?_
 simp -implicitDefEqProofs [go_sem]
 refine ag oa ?_
 simp -implicitDefEqProofs [go_sem]
 refine ag m2 ?_
 simp -implicitDefEqProofs [go_sem]
 refine ag hm ?_
 simp -implicitDefEqProofs [go_sem,aK]
theorem yv {x y:Rat} (hx:sz x≤17179869184) (hy:sz y≤17179869184):nl (x.num*y.den+y.num*x.den).natAbs<1099511627776:=by
 have:=bz x; have:=bz y; have:=bv x; have:=bv y
 have h1:=bG x.num.natAbs y.den
 have h2:=bG y.num.natAbs x.den
 have h4:(x.num*y.den+y.num*x.den).natAbs≤x.num.natAbs*y.den+y.num.natAbs*x.den:=by
  refine Nat.le_trans (Int.natAbs_add_le _ _) ?_
  rw [Int.natAbs_mul,Int.natAbs_mul]; simp
 have h5:=dK h4
 have h6:=oJ (x.num.natAbs*y.den) (y.num.natAbs*x.den)
 omega
theorem lc (x y:Rat) (hx:sz x≤17179869184) (hy:sz y≤17179869184):aa Tryz.prog 258 [rA x,rA y] (rA (x+y)):=by
 have:=bz x; have:=bz y; have:=bv x; have:=bv y
 have oa:=gR x
 have ob:=gR y
 have m1:=mz x.num y.den (by simp; omega)
 have m2:=mz y.num x.den (by simp; omega)
 have hs:=BP (x.num*y.den) (y.num*x.den) (by
  have h1:=bG x.num.natAbs y.den
  have h2:=bG y.num.natAbs x.den
  rw [Int.natAbs_mul,Int.natAbs_mul]; simp; omega)
 have hd:=By x.den y.den (by omega)
 have hm:=yi (x.num*y.den+y.num*x.den) (x.den*y.den) (yv hx hy) (by have:=bG x.den y.den; omega) (fF x y)
 rw [←wI] at hm
 generalize x+y=r at *
 generalize x.num*y.den+y.num*x.den=s at *
 generalize x.num*y.den=u at *
 generalize y.num*x.den=w at *
 generalize x.den*y.den=dd at *
 refine Pg Tryz.func258 rfl [.cell 4 27] rfl (bI _) ?_
 rw [pn] at oa ob m1 m2
 unfold rA RQ.av qc zA ZR.av zc at *
 simp only at *
 simp -implicitDefEqProofs [go_sem]
 refine ag ob ?_
 simp -implicitDefEqProofs [go_sem]
 refine ag m1 ?_
 simp -implicitDefEqProofs [go_sem]
 refine ag oa ?_
 simp -implicitDefEqProofs [go_sem]
 refine ag m2 ?_
 simp -implicitDefEqProofs [go_sem]
 refine ag hs ?_
 simp -implicitDefEqProofs [go_sem]
 refine ag hd ?_
 simp -implicitDefEqProofs [go_sem]
 refine ag hm ?_
 simp -implicitDefEqProofs [go_sem,aK]
theorem rQ (x y:Rat) (hx:sz x≤17179869184) (hy:sz y≤17179869184):aa Tryz.prog 260 [rA x,rA y] (rA (x*y)):=by
 have:=bz x; have:=bz y; have:=bv x; have:=bv y
 have m1:=mz x.num y.num (by omega)
 have hd:=By x.den y.den (by omega)
 have hm:=yi (x.num*y.num) (x.den*y.den) (by have:=bG x.num.natAbs y.num.natAbs; rw [Int.natAbs_mul]; omega) (by have:=bG x.den y.den; omega) (fF x y)
 rw [←yq] at hm
 generalize x*y=r at *
 generalize x.num*y.num=u at *
 generalize x.den*y.den=dd at *
 refine Pg Tryz.func260 rfl [.cell 4 27] rfl (bI _) ?_
 unfold rA RQ.av qc zA ZR.av zc at *
 simp only at *
 simp -implicitDefEqProofs [go_sem]
 refine ag m1 ?_
 simp -implicitDefEqProofs [go_sem]
 refine ag hd ?_
 simp -implicitDefEqProofs [go_sem]
 refine ag hm ?_
 simp -implicitDefEqProofs [go_sem,aK]
theorem rP (x y:Rat) (hx:sz x≤17179869184) (hy:sz y≤17179869184):aa Tryz.prog 259 [rA x,rA y,.rp [.fn (.func 258) [] []]] (rA (x-y)):=by
 have hn:=BQ y.num (by have:=bz y; omega)
 have ha:=lc x (-y) hx (by rw [sz_neg]; exact hy)
 rw [←Rat.sub_eq_add_neg] at ha
 generalize x-y=r at *
 refine Pg Tryz.func259 rfl [.cell 5 27] rfl (bI _) ?_
 unfold rA RQ.av qc zA ZR.av zc at *
 rw [Rat.neg_num,Rat.neg_den] at ha
 simp only at *
 generalize -y.num=ny at *
 simp -implicitDefEqProofs [go_sem]
 refine ag hn ?_
 simp -implicitDefEqProofs [go_sem]
 refine ag ha ?_
 simp -implicitDefEqProofs [go_sem,aK]
@[go_sem] theorem HJ (off:Nat) (v:AV):(AV.any).lay off [v]=v:=rfl
theorem xj (a b:RQ) (ha:a.Sm) (hb:b.Sm):aa Tryz.prog 129 [.int .i64 0,a.av,b.av] (rA (a.val+b.val)):=by
 have ga:=bU a ha.ok
 have gb:=bU b hb.ok
 have hs:=lc a.val b.val (eK ha) (eK hb)
 generalize a.val=x at *
 generalize b.val=y at *
 generalize x+y=r at *
 refine Pg Tryz.func129 rfl [.cell 6 27] rfl (bI _) ?_
 unfold rA RQ.av qc at *
 simp only at *
 simp -implicitDefEqProofs [go_sem]
 refine iK (sz:=4) (rest:=[.int .u32 0,.sl 0 true []]) (by simp -implicitDefEqProofs [go_sem,nx]) ?_
 refine Cg Tryz.func206 rfl [] rfl ?_
 simp -implicitDefEqProofs [go_sem,fS,ja]
 refine ag ga ?_
 simp -implicitDefEqProofs [go_sem]
 refine ag gb ?_
 simp -implicitDefEqProofs [go_sem]
 refine ag hs ?_
 simp -implicitDefEqProofs [go_sem,aK]
theorem xl (a b:RQ) (ha:a.Sm) (hb:b.Sm):aa Tryz.prog 129 [.int .i64 1,a.av,b.av] (rA (a.val-b.val)):=by
 have ga:=bU a ha.ok
 have gb:=bU b hb.ok
 have hs:=rP a.val b.val (eK ha) (eK hb)
 generalize a.val=x at *
 generalize b.val=y at *
 generalize x-y=r at *
 refine Pg Tryz.func129 rfl [.cell 6 27] rfl (bI _) ?_
 unfold rA RQ.av qc at *
 simp only at *
 simp -implicitDefEqProofs [go_sem]
 refine iK (sz:=4) (rest:=[.int .u32 0,.sl 0 true []]) (by simp -implicitDefEqProofs [go_sem,nx]) ?_
 refine Cg Tryz.func206 rfl [] rfl ?_
 simp -implicitDefEqProofs [go_sem,fS,ja]
 refine ag ga ?_
 simp -implicitDefEqProofs [go_sem]
 refine ag gb ?_
 simp -implicitDefEqProofs [go_sem]
 refine pR [4] _ (by kernel_rfl) hs (by simp -implicitDefEqProofs [go_sem]) (by simp -implicitDefEqProofs [go_sem]) (by simp -implicitDefEqProofs [go_sem]) (by simp -implicitDefEqProofs [go_sem]) ?_
 simp -implicitDefEqProofs [go_sem,aK]
theorem xm (a b:RQ) (ha:a.Sm) (hb:b.Sm):aa Tryz.prog 129 [.int .i64 2,a.av,b.av] (rA (a.val*b.val)):=by
 have ga:=bU a ha.ok
 have gb:=bU b hb.ok
 have hs:=rQ a.val b.val (eK ha) (eK hb)
 generalize a.val=x at *
 generalize b.val=y at *
 generalize x*y=r at *
 refine Pg Tryz.func129 rfl [.cell 6 27] rfl (bI _) ?_
 unfold rA RQ.av qc at *
 simp only at *
 simp -implicitDefEqProofs [go_sem]
 refine iK (sz:=4) (rest:=[.int .u32 0,.sl 0 true []]) (by simp -implicitDefEqProofs [go_sem,nx]) ?_
 refine Cg Tryz.func206 rfl [] rfl ?_
 simp -implicitDefEqProofs [go_sem,fS,ja]
 refine ag ga ?_
 simp -implicitDefEqProofs [go_sem]
 refine ag gb ?_
 simp -implicitDefEqProofs [go_sem]
 refine ag hs ?_
 simp -implicitDefEqProofs [go_sem,aK]
theorem ff (a b:RQ) (ha:a.Sm) (hb:b.Sm):aa Tryz.prog 133 [a.av,b.av] (rA (a.val+b.val)):=by
 have h:=xj a b ha hb
 generalize a.val+b.val=r at *
 refine Pg Tryz.func133 rfl [.cell 4 27] rfl (bI _) ?_
 unfold rA RQ.av qc at *
 simp only at *
 simp -implicitDefEqProofs [go_sem]
 refine ab h ?_
 simp -implicitDefEqProofs [go_sem,aK]
theorem jH (a b:RQ) (ha:a.Sm) (hb:b.Sm):aa Tryz.prog 171 [a.av,b.av] (rA (a.val-b.val)):=by
 have h:=xl a b ha hb
 generalize a.val-b.val=r at *
 refine Pg Tryz.func171 rfl [.cell 4 27] rfl (bI _) ?_
 unfold rA RQ.av qc at *
 simp only at *
 simp -implicitDefEqProofs [go_sem]
 refine ab h ?_
 simp -implicitDefEqProofs [go_sem,aK]
theorem dc (a b:RQ) (ha:a.Sm) (hb:b.Sm):aa Tryz.prog 58 [a.av,b.av] (rA (a.val*b.val)):=by
 have h:=xm a b ha hb
 generalize a.val*b.val=r at *
 refine Pg Tryz.func58 rfl [.cell 4 27] rfl (bI _) ?_
 unfold rA RQ.av qc at *
 simp only at *
 simp -implicitDefEqProofs [go_sem]
 refine ab h ?_
 simp -implicitDefEqProofs [go_sem,aK]
def iA (x:Int):AV := .agg [.bool (decide (x<0)),qA x.natAbs]
theorem l4 (x:Int):ro (iA x):=by unfold iA qA; simp -implicitDefEqProofs [go_sem]
theorem Je (x:Nat):(ah 4294967296 x).length≤2*nl x:=by
 refine bB (by omega) ?_
 rw [tM]; exact qf
theorem gl {x:Nat} (h:nl x<549755813888):bA (ah 4294967296 x):=by
 unfold bA; have:=Je x; omega
theorem CJ (b:Bool) (x:Nat):iA (cW b x) = .agg [.bool (b && decide (0<x)),qA x]:=by
 unfold iA; simp only [bX,o5]
theorem qd {x:Nat}:decide (0<(ah 4294967296 x).length)=decide (0<x):=by
 congr 1
 rw [List.length_pos_iff,ne_eq,aH (by omega),Nat.pos_iff_ne_zero]
theorem c_ (neg:Bool) (n:Nat):aa Tryz.prog 156 [.bool neg,qA n] (iA (cW neg n)):=by
 refine Pg Tryz.func156 rfl [.cell 4 43] rfl (l4 _) ?_
 rw [CJ]
 have hp:=qd (x:=n)
 unfold qA at *
 simp -implicitDefEqProofs [go_sem,aK]
 refine ⟨fun h=>by rw [hp,h]; rfl,fun h h2=>by rw [h] at h2; cases h2⟩
theorem ye (z:ZR) (hz:z.Ok):aa Tryz.prog 77 [z.av] (iA z.val):=by
 obtain ⟨neg,n⟩:=z
 have h1:=oC n hz.len hz.lim
 have h2:=c_ neg (lv 18446744073709551616 n)
 unfold ZR.val
 simp only
 generalize cW neg (lv 18446744073709551616 n)=y at *
 generalize lv 18446744073709551616 n=m at *
 refine Pg Tryz.func77 rfl [.cell 2 43] rfl (l4 _) ?_
 unfold ZR.av iA qA at *
 simp only
 simp -implicitDefEqProofs [go_sem]
 refine ag h1 ?_
 simp -implicitDefEqProofs [go_sem]
 refine ag h2 ?_
 simp -implicitDefEqProofs [go_sem,aK]
theorem vr (x:Int) (h:nl x.natAbs<549755813888):aa Tryz.prog 204 [iA x] (zA x):=by
 have h1:=qo x.natAbs (gl h)
 refine Pg Tryz.func204 rfl [.cell 2 25] rfl (j0 _) ?_
 unfold iA zA ZR.av zc qA at *
 simp -implicitDefEqProofs [go_sem]
 refine ag h1 ?_
 simp -implicitDefEqProofs [go_sem,aK]
theorem pY (v:Int) (h : -9223372036854775808≤v∧v≤9223372036854775807):aa Tryz.prog 137 [.int .i64 v] (iA v):=by
 refine Pg Tryz.func137 rfl [.cell 2 43] rfl (l4 _) ?_
 have hof:=gO v.natAbs (by omega)
 have h1:=c_ true v.natAbs
 have h2:=c_ false v.natAbs
 unfold qA at *
 simp -implicitDefEqProofs [go_sem]
 refine ⟨fun h0=>?_,fun h0=>?_⟩
 ·have e1:IntKind.u64.wrap (IntKind.u64.wrap (IntKind.i64.wrap (-IntKind.i64.wrap (v+1)))+1)=(v.natAbs:Nat):=by
   rw [bQ (x:=v+1) (by omega),bQ (by omega),aW (x := -(v+1)) (by omega),aW (by omega)]; omega
  rw [e1]
  have e2:cW true v.natAbs=v:=by unfold cW; simp only [if_true]; omega
  rw [e2] at h1
  refine ab hof ?_
  simp -implicitDefEqProofs [go_sem]
  refine ab h1 ?_
  simp -implicitDefEqProofs [go_sem,aK,iA,qA]
 ·have e1:IntKind.u64.wrap v=(v.natAbs:Nat):=by rw [aW (by omega)]; omega
  rw [e1]
  have e2:cW false v.natAbs=v:=by unfold cW; simp only [Bool.false_eq_true,if_false]; omega
  rw [e2] at h2
  refine ab hof ?_
  simp -implicitDefEqProofs [go_sem]
  refine ab h2 ?_
  simp -implicitDefEqProofs [go_sem,aK,iA,qA]
theorem pW (x:Int):aa Tryz.prog 247 [iA x] (iA (-x)):=by
 have hm:=c_ (!(decide (x<0))) x.natAbs
 rw [ub,jg] at hm
 generalize -x=y at *
 refine Pg Tryz.func247 rfl [.cell 2 43] rfl (l4 _) ?_
 unfold iA qA at *
 generalize hb:decide (x<0)=b at *
 simp -implicitDefEqProofs [go_sem]
 refine ab hm ?_
 simp -implicitDefEqProofs [go_sem,aK]
theorem r6 (x:Int):aa Tryz.prog 120 [iA x] (.int .i64 (dM x)):=by
 refine Pg Tryz.func120 rfl [.tmp 2] rfl (by simp -implicitDefEqProofs [go_sem]) ?_
 unfold iA qA
 have hp:ah 4294967296 x.natAbs=[]↔x=0:=by rw [aH (by omega)]; omega
 unfold dM
 by_cases h0:x=0
 ·have:=hp.2 h0
  simp -implicitDefEqProofs [go_sem,h0,this]
  exact aD
 ·have h1:¬ah 4294967296 x.natAbs=[]:=fun h=>h0 (hp.1 h)
  by_cases h2:x<0
  ·simp -implicitDefEqProofs [go_sem,h0,h1,h2]
  ·simp -implicitDefEqProofs [go_sem,h0,h1,h2]
theorem ng (x y:Int) (hx:nl x.natAbs<549755813888) (hy:nl y.natAbs<549755813888):aa Tryz.prog 135 [iA x,iA y] (iA (x*y)):=by
 have h1:=iG x.natAbs y.natAbs (gl hx) (gl hy)
 have hm:=c_ (decide (x<0) != decide (y<0)) (x.natAbs*y.natAbs)
 rw [o6,jg,jg] at hm
 refine Pg Tryz.func135 rfl [.cell 4 43] rfl (l4 _) ?_
 generalize x*y=z at *
 generalize x.natAbs*y.natAbs=xy at *
 unfold iA qA at *
 generalize decide (x<0)=bx at *
 generalize decide (y<0)=by' at *
 simp -implicitDefEqProofs [go_sem]
 refine ag h1 ?_
 simp -implicitDefEqProofs [go_sem]
 refine ag (show aa Tryz.prog 156 [.bool (!(bx == by')),mA (ah 4294967296 xy)] _ from hm) ?_
 simp -implicitDefEqProofs [go_sem,aK]
theorem vn (x y:Int) (hx:nl x.natAbs<549755813888) (hy:nl y.natAbs<549755813888):aa Tryz.prog 255 [iA x,iA y] (iA (x+y)):=by
 have fx:=gl hx
 have fy:=gl hy
 have hadd:=ri x.natAbs y.natAbs fx fy
 have hcmp:=fB x.natAbs y.natAbs fx.x fy.x
 have hsub1:=fun h=>iO x.natAbs y.natAbs fx fy h
 have hsub2:=fun h=>iO y.natAbs x.natAbs fy fx h
 have hmk:=c_
 refine Pg Tryz.func255 rfl [.cell 4 43] rfl (l4 _) ?_
 rcases Decidable.em (x<0↔y<0) with h|h
 ·have hm:=hmk (decide (x<0)) (x.natAbs+y.natAbs)
  rw [show cW (decide (x<0)) (x.natAbs+y.natAbs)=x+y by unfold cW; simp only [decide_eq_true_eq]; split<;>omega] at hm
  generalize x+y=z at *
  generalize x.natAbs+y.natAbs=s at *
  unfold iA qA at *
  simp -implicitDefEqProofs [go_sem,h]
  refine ag hadd ?_
  simp -implicitDefEqProofs [go_sem,h]
  simp only [h] at hm
  refine ag hm ?_
  simp -implicitDefEqProofs [go_sem,aK]
 ·rcases Nat.lt_or_ge x.natAbs y.natAbs with h1|h1
  ·have hc:¬0≤a8 x.natAbs y.natAbs:=by rw [cg (by omega)]; omega
   have hm:=hmk (decide (y<0)) (y.natAbs-x.natAbs)
   rw [show cW (decide (y<0)) (y.natAbs-x.natAbs)=x+y by unfold cW; simp only [decide_eq_true_eq]; split<;>omega] at hm
   have hs:=hsub2 (by omega)
   clear hsub1 hsub2 hadd hmk
   generalize x+y=z at *
   generalize y.natAbs-x.natAbs=s at *
   generalize a8 x.natAbs y.natAbs=c at *
   unfold iA qA at *
   simp -implicitDefEqProofs [go_sem,h]
   refine ab hcmp ?_
   simp -implicitDefEqProofs [go_sem,hc]
   refine ag hs ?_
   simp -implicitDefEqProofs [go_sem]
   refine ag hm ?_
   simp -implicitDefEqProofs [go_sem,aK]
  ·have hc:0≤a8 x.natAbs y.natAbs:=by
    rcases Nat.lt_or_ge y.natAbs x.natAbs with h|h
    ·rw [bN (by omega)]; omega
    ·rw [show x.natAbs=y.natAbs by omega,dh]; omega
   have hm:=hmk (decide (x<0)) (x.natAbs-y.natAbs)
   rw [show cW (decide (x<0)) (x.natAbs-y.natAbs)=x+y by unfold cW; simp only [decide_eq_true_eq]; split<;>omega] at hm
   have hs:=hsub1 h1
   clear hsub1 hsub2 hadd hmk
   generalize x+y=z at *
   generalize x.natAbs-y.natAbs=s at *
   generalize a8 x.natAbs y.natAbs=c at *
   unfold iA qA at *
   simp -implicitDefEqProofs [go_sem,h]
   refine ab hcmp ?_
   simp -implicitDefEqProofs [go_sem,hc]
   refine ag hs ?_
   simp -implicitDefEqProofs [go_sem]
   refine ag hm ?_
   simp -implicitDefEqProofs [go_sem,aK]
theorem vt (x y:Int) (hx:nl x.natAbs<549755813888) (hy:nl y.natAbs<549755813888):aa Tryz.prog 207 [iA x,iA y] (iA (x-y)):=by
 have hn:=pW y
 have ha:=vn x (-y) hx (by rw [Int.natAbs_neg]; exact hy)
 rw [←Int.sub_eq_add_neg] at ha
 generalize x-y=z at *
 generalize -y=w at *
 refine Pg Tryz.func207 rfl [.cell 4 43] rfl (l4 _) ?_
 unfold iA qA at *
 simp -implicitDefEqProofs [go_sem]
 refine ag hn ?_
 simp -implicitDefEqProofs [go_sem]
 refine ag ha ?_
 simp -implicitDefEqProofs [go_sem,aK]
theorem vo (x y:Int) (hx:nl x.natAbs<549755813888) (hy:nl y.natAbs<549755813888):aa Tryz.prog 134 [iA x,iA y] (.int .i64 (a8 x y)):=by
 have hs:=vt x y hx hy
 have hg:=r6 (x-y)
 rw [qP] at hg
 generalize x-y=z at *
 generalize a8 x y=c at *
 refine Pg Tryz.func134 rfl [.tmp 4] rfl (by simp -implicitDefEqProofs [go_sem]) ?_
 unfold iA qA at *
 simp -implicitDefEqProofs [go_sem]
 refine ab hs ?_
 simp -implicitDefEqProofs [go_sem]
 refine ab hg ?_
 simp -implicitDefEqProofs [go_sem]
@[go_sem] theorem D_ (a:AV) (l:List AV):aV (a::l) 0=a:=rfl
def fA (x:Rat):AV := .agg [.bool (decide (x.num<0)),qA x.num.natAbs,qA x.den]
theorem tW (x:Rat):ro (fA x):=by unfold fA qA; simp -implicitDefEqProofs [go_sem]
theorem lh (p:Int) (q:Nat) (hp:nl p.natAbs<549755813888) (hq:nl q<549755813888) (h0:q≠0):aa Tryz.prog 76 [iA p,qA q] (fA (mkRat p q)):=by
 have hg:=rS p.natAbs q (gl hp) (gl hq)
 obtain ⟨g,hgg⟩:∃g,g=Nat.gcd p.natAbs q:=⟨_,rfl⟩
 have hg0:g≠0:=by rw [hgg]; exact Nat.gcd_ne_zero_right h0
 have hgl:g≤q:=by rw [hgg]; exact Nat.le_of_dvd (Nat.pos_iff_ne_zero.2 h0) (Nat.gcd_dvd_right _ _)
 have hgf:bA (ah 4294967296 g):=gl (Nat.lt_of_le_of_lt (dK hgl) hq)
 have hd1:=eH p.natAbs g (gl hp) hgf (by omega)
 have hd2:=eH q g (gl hq) hgf (by omega)
 have hgp:g ∣ p.natAbs:=by rw [hgg]; exact Nat.gcd_dvd_left _ _
 have hn:(mkRat p q).num=cW (decide (p<0)) (p.natAbs / g):=by
  rw [oH _ h0,←hgg,ua _ hgp,jg]
 have hdn:(mkRat p q).den=q / g:=by rw [se _ h0,←hgg]
 have hneg:decide (cW (decide (p<0)) (p.natAbs / g)<0)=decide (p<0):=by
  rw [o5]
  by_cases h:p<0
  ·have:0<p.natAbs / g:=Nat.div_pos (Nat.le_of_dvd (by omega) hgp) (by omega)
   simp [h,this]
  ·simp [h]
 rw [←hgg] at hg
 refine Pg Tryz.func76 rfl [.cell 4 45] rfl (tW _) ?_
 unfold fA
 rw [hn,hdn,hneg,bX]
 clear hn hdn hneg
 by_cases h1:g=1
 ·rw [h1,Nat.div_one,Nat.div_one]
  rw [h1] at hg
  clear hd1 hd2
  unfold iA qA at *
  rw [cI (B:=4294967296) (n:=1) (by omega) (by omega) (by omega)] at hg
  generalize ah 4294967296 p.natAbs=P at *
  generalize ah 4294967296 q=Q at *
  simp -implicitDefEqProofs [go_sem]
  refine ab hg ?_
  simp -implicitDefEqProofs [go_sem,aK]
 ·generalize p.natAbs / g=pg at *
  generalize p.natAbs%g=pr at *
  generalize q / g=qg at *
  generalize q%g=qr at *
  unfold iA qA at *
  by_cases h2:g<4294967296
  ·rw [cI (B:=4294967296) (by omega) hg0 h2] at hg hd1 hd2
   clear hgf hgl hgp hgg
   have h1i:¬(g:Int)=1:=by omega
   simp -implicitDefEqProofs [go_sem]
   refine ab hg ?_
   simp -implicitDefEqProofs [go_sem,h1i]
   refine ag hd1 ?_
   simp -implicitDefEqProofs [go_sem]
   refine ag hd2 ?_
   simp -implicitDefEqProofs [go_sem,aK]
  ·have hlen:¬(ah 4294967296 g).length=1:=fun h=>by
    have h3:=bF (ak (B:=4294967296) (by omega) g)
    rw [h,an (by omega)] at h3
    exact h2 (by simpa using h3)
   have hne:¬ah 4294967296 g=[]:=fun h=>hg0 ((aH (by omega)).1 h)
   generalize ah 4294967296 g=G at *
   have hlen2:¬(G.length:Int)=1:=by omega
   simp -implicitDefEqProofs [go_sem]
   refine ab hg ?_
   simp -implicitDefEqProofs [go_sem,hlen2,hne]
   refine ag hd1 ?_
   simp -implicitDefEqProofs [go_sem]
   refine ag hd2 ?_
   simp -implicitDefEqProofs [go_sem,aK]
theorem pN (z:RQ) (hz:z.Ok) (hp:nl z.num.natAbs<549755813888) (hq:nl z.den<549755813888):aa Tryz.prog 19 [z.av] (fA z.val):=by
 have h1:=oC z.q hz.lenq hz.limq
 have h2:=ye ⟨z.neg,z.p⟩ ⟨hz.lenp,hz.limp⟩
 have h3:=gO 1 (by omega)
 have hm:=lh z.num z.den hp hq z.den_ne
 change aa _ _ _ (iA z.num) at h2
 change aa _ _ _ (fA z.val) at hm
 have hd:z.den=if lv 18446744073709551616 z.q=0 then 1 else lv 18446744073709551616 z.q:=rfl
 generalize z.val=v at *
 generalize z.num=n at *
 generalize z.den=d at *
 refine Pg Tryz.func19 rfl [.cell 2 45] rfl (tW _) ?_
 unfold RQ.av ZR.av fA iA qA at *
 simp only at *
 by_cases h0:lv 18446744073709551616 z.q=0
 ·rw [if_pos h0] at hd
  subst hd
  rw [h0,aD] at h1
  generalize ah 4294967296 1=o at *
  simp -implicitDefEqProofs [go_sem]
  refine ab h1 ?_
  simp -implicitDefEqProofs [go_sem]
  refine ab h3 ?_
  simp -implicitDefEqProofs [go_sem]
  refine ab h2 ?_
  simp -implicitDefEqProofs [go_sem]
  refine ab hm ?_
  simp -implicitDefEqProofs [go_sem,aK]
 ·rw [if_neg h0] at hd
  have hne:¬ah 4294967296 d=[]:=fun h=>h0 (by rw [←hd]; exact (aH (by omega)).1 h)
  rw [←hd] at h1
  generalize ah 4294967296 d=D at *
  simp -implicitDefEqProofs [go_sem]
  refine ab h1 ?_
  simp -implicitDefEqProofs [go_sem,hne]
  refine ab h2 ?_
  simp -implicitDefEqProofs [go_sem]
  refine ab hm ?_
  simp -implicitDefEqProofs [go_sem,aK]
theorem mZ (x:Rat) (h:sz x<549755813888):aa Tryz.prog 126 [fA x] (rA x):=by
 have:=bz x; have:=bv x
 have h1:=vr x.num (by omega)
 have h2:=qo x.den (gl (by omega))
 have hne:¬ah 18446744073709551616 x.den=[]:=fun h=>x.den_nz ((aH (by omega)).1 h)
 refine Pg Tryz.func126 rfl [.cell 2 27] rfl (bI _) ?_
 unfold rA RQ.av qc fA iA zA ZR.av zc qA at *
 simp only at *
 generalize ah 18446744073709551616 x.den=D at *
 simp -implicitDefEqProofs [go_sem]
 refine ab h2 ?_
 simp -implicitDefEqProofs [go_sem,hne]
 refine ab h1 ?_
 simp -implicitDefEqProofs [go_sem,aK]
theorem mW (x:Rat):aa Tryz.prog 136 [fA x] (iA (x.den:Int)):=by
 have hne:¬ah 4294967296 x.den=[]:=fun h=>x.den_nz ((aH (by omega)).1 h)
 have hi:iA (x.den:Int) = .agg [.bool false,qA x.den]:=by
  unfold iA
  have h:decide ((x.den:Int)<0)=false:=by simp
  rw [h]; rfl
 rw [hi]
 refine Pg Tryz.func136 rfl [.cell 2 43] rfl (by simp -implicitDefEqProofs [go_sem,qA]) ?_
 unfold fA qA at *
 generalize ah 4294967296 x.den=D at *
 simp -implicitDefEqProofs [go_sem,hne,aK]
theorem CI (n:Nat):iA (n:Int) = .agg [.bool false,qA n]:=by
 unfold iA
 have h:decide ((n:Int)<0)=false:=by simp
 rw [h]; rfl
theorem uK (x y:Rat) (hx:sz x≤17179869184) (hy:sz y≤17179869184):aa Tryz.prog 63 [fA x,fA y] (.int .i64 (c9 x y)):=by
 have:=bz x; have:=bz y; have:=bv x; have:=bv y
 have dx:=mW x
 have dy:=mW y
 have m1:=ng x.num y.den (by omega) (by simp; omega)
 have m2:=ng y.num x.den (by omega) (by simp; omega)
 have hc:=vo (x.num*y.den) (y.num*x.den) (by
  have h1:=bG x.num.natAbs y.den
  rw [Int.natAbs_mul]; simp; omega) (by
  have h1:=bG y.num.natAbs x.den
  rw [Int.natAbs_mul]; simp; omega)
 unfold c9
 generalize x.num*y.den=u at *
 generalize y.num*x.den=w at *
 generalize a8 u w=c at *
 rw [CI] at dx dy m1 m2
 refine Pg Tryz.func63 rfl [.tmp 4] rfl (by simp -implicitDefEqProofs [go_sem]) ?_
 unfold fA iA qA at *
 simp -implicitDefEqProofs [go_sem]
 refine ag dy ?_
 simp -implicitDefEqProofs [go_sem]
 refine ag m1 ?_
 simp -implicitDefEqProofs [go_sem]
 refine ag dx ?_
 simp -implicitDefEqProofs [go_sem]
 refine ag m2 ?_
 simp -implicitDefEqProofs [go_sem]
 refine ag hc ?_
 simp -implicitDefEqProofs [go_sem]
theorem sZ {x y:Rat}:c9 x y<0↔x<y:=by
 unfold c9
 rw [Rat.lt_iff]
 constructor
 ·intro h
  rcases Int.lt_or_le (x.num*y.den) (y.num*x.den) with h1|h1
  ·exact h1
  ·exfalso
   unfold a8 at h
   rw [if_neg (by omega)] at h
   split at h<;>omega
 ·intro h; rw [cg h]; omega
theorem fD {x y:Rat}:0<c9 x y↔y<x:=by
 unfold c9
 rw [Rat.lt_iff]
 constructor
 ·intro h
  rcases Int.lt_or_le (y.num*x.den) (x.num*y.den) with h1|h1
  ·exact h1
  ·exfalso
   unfold a8 at h
   split at h
   ·omega
   ·split at h<;>omega
 ·intro h; rw [bN h]; omega
theorem kB {x y:Rat}:c9 x y=0↔x=y:=by
 constructor
 ·intro h
  have h1:¬x<y:=fun h1=>by have:=sZ.2 h1; omega
  have h2:¬y<x:=fun h2=>by have:=fD.2 h2; omega
  grind
 ·intro h
  have h1:¬c9 x y<0:=fun h1=>by have:=sZ.1 h1; grind
  have h2:¬0<c9 x y:=fun h1=>by have:=fD.1 h1; grind
  omega
theorem kI {x:Rat}:dC x<0↔x<0:=by
 unfold dC dM
 rw [Rat.lt_iff]
 simp
 split
 ·simp_all
 ·split<;>simp_all
theorem AZ {x:Rat}:dC x=0↔x=0:=by
 unfold dC dM
 rw [←Rat.num_eq_zero]
 split
 ·constructor<;>intro h<;>omega
 ·split<;>simp_all
theorem o1 {x:Rat}:0<dC x↔0<x:=by
 have h1 := @kI x
 have h2 := @AZ x
 constructor
 ·intro h
  have:¬x<0:=fun h3=>by have:=h1.2 h3; omega
  have:¬x=0:=fun h3=>by have:=h2.2 h3; omega
  grind
 ·intro h
  have:¬dC x<0:=fun h3=>by have:=h1.1 h3; grind
  have:¬dC x=0:=fun h3=>by have:=h2.1 h3; grind
  omega
theorem pQ (p q:Int) (hp : -9223372036854775808≤p∧p≤9223372036854775807) (hq : -9223372036854775808≤q∧q≤9223372036854775807) (h0:q≠0) :
 aa Tryz.prog 64 [.int .i64 p,.int .i64 q] (fA ((p:Rat) / (q:Rat))):=by
 have h1:=pY p hp
 have h2:=pY q hq
 have hsg:(if q<0 then -p else p)=cW (decide (p<0) != decide (q<0)) p.natAbs:=by
  unfold cW
  by_cases h3:p<0<;>by_cases h4:q<0<;>simp [h3,h4]<;>omega
 have hneg:decide (cW (decide (p<0) != decide (q<0)) p.natAbs<0)=((decide (p<0) != decide (q<0)) && decide (0<(ah 4294967296 p.natAbs).length)):=by
  rw [o5,qd]
 have hm:=lh (if q<0 then -p else p) q.natAbs (by have:=iI hp; rw [show (if q<0 then -p else p).natAbs=p.natAbs by split<;>omega]; omega) (by have:=iI hq; omega) (by omega)
 rw [←n8] at hm
 rw [hsg] at hm
 generalize (p:Rat) / (q:Rat)=r at *
 refine Pg Tryz.func64 rfl [.cell 4 45] rfl (tW _) ?_
 unfold fA iA qA at *
 rw [hneg,bX] at hm
 clear hneg hsg
 simp -implicitDefEqProofs [go_sem,h0]
 refine ab h1 ?_
 simp -implicitDefEqProofs [go_sem]
 refine ab h2 ?_
 simp -implicitDefEqProofs [go_sem]
 refine ⟨fun h=>?_,fun h=>?_⟩
 ·have hb:(decide (p<0) != decide (q<0))=true:=by
   by_cases h3:p<0<;>by_cases h4:q<0<;>simp [h3,h4] at h ⊢
  rw [hb,Bool.true_and] at hm
  refine ab hm ?_
  simp -implicitDefEqProofs [go_sem,aK]
 ·have hb:(decide (p<0) != decide (q<0))=false:=by
   by_cases h3:p<0<;>by_cases h4:q<0<;>simp [h3,h4] at h ⊢
  rw [hb,Bool.false_and] at hm
  refine ab hm ?_
  simp -implicitDefEqProofs [go_sem,aK]
theorem nv (a:List Nat) (ha:bA a):aa Tryz.prog 222 [nA a,nA a] (.bool true):=by
 unfold bA at ha
 refine Pg Tryz.func222 rfl [.tmp 4] rfl (by simp -implicitDefEqProofs [go_sem]) ?_
 simp -implicitDefEqProofs [go_sem]
 refine aj 9 (α:={i:Nat // i≤a.length}) (fun i=>[(0,nA a),(1,nA a),(5,.int .i64 i.1)]) (fun i=>[]) (fun i=>a.length-i.1) ⟨0,by omega⟩ [] (by simp) (by simp) (by simp) (by simp -implicitDefEqProofs [go_sem]) (by simp -implicitDefEqProofs [go_sem]) fun ⟨i,hi⟩=>?_
 simp -implicitDefEqProofs [go_sem]
 intro h
 have hg:=aE .u64 (l:=a) (i:=i) h
 have es:=wS i (by omega)
 simp -implicitDefEqProofs [go_sem,hg,es]
 exact ⟨h,ac ⟨i+1,by omega⟩ (by simp only; omega) [] (by simp) (by simp) (by simp) (by simp -implicitDefEqProofs [go_sem]) (by simp -implicitDefEqProofs [go_sem])⟩
theorem vq (x:Int) (h:nl x.natAbs<1099511627776):aa Tryz.prog 221 [zA x,zA x] (.bool true):=by
 have hn:=nv (ah 18446744073709551616 x.natAbs) h
 refine Pg Tryz.func221 rfl [.tmp 4] rfl (by simp -implicitDefEqProofs [go_sem]) ?_
 unfold zA ZR.av zc
 simp -implicitDefEqProofs [go_sem]
 refine ab hn ?_
 simp -implicitDefEqProofs [go_sem]
theorem nE (x:Rat) (h:sz x<1099511627776):aa Tryz.prog 157 [rA x,rA x] (.bool true):=by
 have h1:=vq x.num (Nat.lt_of_le_of_lt (bz x) h)
 have h2:=nv (ah 18446744073709551616 x.den) (Nat.lt_of_le_of_lt (bv x) h)
 refine Pg Tryz.func157 rfl [.tmp 4] rfl (by simp -implicitDefEqProofs [go_sem]) ?_
 unfold rA RQ.av qc zA ZR.av zc at *
 simp only at *
 simp -implicitDefEqProofs [go_sem]
 refine ab h1 ?_
 simp -implicitDefEqProofs [go_sem]
 refine ab h2 ?_
 simp -implicitDefEqProofs [go_sem]
theorem uc (z:RQ) (m:Nat):aa Tryz.prog 62 [z.av,.int .i64 m] (.bool (decide (z.p.length≤m∧z.q.length≤m))):=by
 refine Pg Tryz.func62 rfl [.tmp 4] rfl (by simp -implicitDefEqProofs [go_sem]) ?_
 unfold RQ.av
 simp -implicitDefEqProofs [go_sem]
 exact ⟨fun h _=>h,fun h1 h2=>by omega⟩
structure HR where
 x:RQ
 y:RQ
 w:RQ
structure HQ where
 x:Rat
 y:Rat
 w:Rat
def HR.av (h:HR):AV := .agg [.bool h.x.neg,nA h.x.p,nA h.x.q,.bool h.y.neg,nA h.y.p,nA h.y.q,.bool h.w.neg,nA h.w.p,nA h.w.q]
def HR.val (h:HR):HQ:=⟨h.x.val,h.y.val,h.w.val⟩
def hc (h:HQ):HR:=⟨qc h.x,qc h.y,qc h.w⟩
def hA (h:HQ):AV:=(hc h).av
theorem oy (h:HQ):(hc h).val=h:=by unfold HR.val hc; simp only [bD]
def hL (l:List HR):AV := .sl 9 false (l.map HR.av)
theorem lZ (h:HR):ro h.av:=by unfold HR.av; simp -implicitDefEqProofs [go_sem]
theorem yY (l:List HR):ro (hL l):=by unfold hL; simp only [ro]; exact br lZ
@[go_sem] theorem oX (l:List HR):roL (l.map HR.av):=br lZ
@[go_sem] theorem H6 (rn:Nat→Nat) (l:List HR):renL rn (l.map HR.av)=l.map HR.av:=renL_ro rn _ (oX l)
@[go_sem] theorem Hi (n:Nat) (l:List HR):cloL n (l.map HR.av):=cloL_ro _ (oX l)
@[go_sem] theorem FA (f:Nat→BS) (l:List HR):fitsL f (l.map HR.av):=fitsL_ro f _ (oX l)
@[go_sem] theorem GR (f:Nat→BS) (l:List HR):viewL f (l.map HR.av)=l.map HR.av:=viewL_ro f _ (oX l)
theorem kC {l:List HR} {i:Nat} (h:i<l.length):aV (l.map HR.av) (i:Int)=(l[i]).av:=by
 simp [aV,List.getD_eq_getElem?_getD,h]
def HQ.sz (h:HQ):Nat:=max (Go.Proofs.YtdnmfaljidjijaaGreat.sz h.x) (max (Go.Proofs.YtdnmfaljidjijaaGreat.sz h.y) (Go.Proofs.YtdnmfaljidjijaaGreat.sz h.w))
structure RQ.In (n:Nat) (z:RQ):Prop where
 lp:z.p.length≤n
 limp:aN 18446744073709551616 z.p
 lq:z.q.length≤n
 limq:aN 18446744073709551616 z.q
theorem RQ.In.sm {n:Nat} {z:RQ} (h:z.In n) (hn:n≤17179869184:=by omega):z.Sm:=⟨Nat.le_trans h.lp hn,h.limp,Nat.le_trans h.lq hn,h.limq⟩
theorem RQ.In.mono {n m:Nat} {z:RQ} (h:z.In n) (hn:n≤m:=by omega):z.In m:=⟨Nat.le_trans h.lp hn,h.limp,Nat.le_trans h.lq hn,h.limq⟩
theorem RQ.In.sz {n:Nat} {z:RQ} (h:z.In n) (hn:1≤n:=by omega):Go.Proofs.YtdnmfaljidjijaaGreat.sz z.val≤n:=by
 have h1:=mj z.num z.den_ne
 have h2:nl z.num.natAbs≤z.p.length:=by unfold RQ.num; rw [bX]; exact jY h.limp
 have h3:nl z.den≤max 1 z.q.length:=by
  unfold RQ.den; split
  ·rw [fK]; omega
  ·have:=jY h.limq; omega
 have:=h.lp
 have:=h.lq
 unfold RQ.val
 omega
theorem ew {n:Nat} {x:Rat} (h:sz x≤n):(qc x).In n:=⟨Nat.le_trans (bz x) h,ak (by omega) _,Nat.le_trans (bv x) h,ak (by omega) _⟩
structure PR where
 x:RQ
 y:RQ
structure PQ where
 x:Rat
 y:Rat
def PR.av (p:PR):AV := .agg [.bool p.x.neg,nA p.x.p,nA p.x.q,.bool p.y.neg,nA p.y.p,nA p.y.q]
def PR.val (p:PR):PQ:=⟨p.x.val,p.y.val⟩
def pc (p:PQ):PR:=⟨qc p.x,qc p.y⟩
def pA (p:PQ):AV:=(pc p).av
theorem a9 (p:PQ):(pc p).val=p:=by unfold PR.val pc; simp only [bD]
theorem l7 (p:PR):ro p.av:=by unfold PR.av; simp -implicitDefEqProofs [go_sem]
theorem gy (p:PQ):ro (pA p):=l7 _
structure PR.In (n:Nat) (p:PR):Prop where
 x:p.x.In n
 y:p.y.In n
def PQ.sz (p:PQ):Nat:=max (Go.Proofs.YtdnmfaljidjijaaGreat.sz p.x) (Go.Proofs.YtdnmfaljidjijaaGreat.sz p.y)
theorem bH {n:Nat} {p:PQ} (h:p.sz≤n):(pc p).In n:=⟨ew (Nat.le_trans (Nat.le_max_left _ _) h),ew (Nat.le_trans (Nat.le_max_right _ _) h)⟩
theorem PR.In.mono {n m:Nat} {z:PR} (h:z.In n) (hn:n≤m:=by omega):z.In m:=⟨h.x.mono hn,h.y.mono hn⟩
theorem jr (g:FuncId) (cap:List AV) (p q:PR) (rx ry:Rat) (hc:roL cap) (h1:aa Tryz.prog g (p.x.av::q.x.av::cap) (rA rx)) (h2:aa Tryz.prog g (p.y.av::q.y.av::cap) (rA ry)) :
 aa Tryz.prog 172 [p.av,q.av,.fn (.func g) [] cap] (pA ⟨rx,ry⟩):=by
 refine Pg Tryz.func172 rfl [.cell 6 72] rfl (gy _) ?_
 unfold pA PR.av pc rA RQ.av at *
 simp only at *
 generalize qc rx=cx at *
 generalize qc ry=cy at *
 simp -implicitDefEqProofs [go_sem]
 refine aO _ h1 (by simp [go_sem,hc]) ?_
 simp -implicitDefEqProofs [go_sem]
 refine aO _ h2 (by simp [go_sem,hc]) ?_
 simp -implicitDefEqProofs [go_sem,aK]
def PQ.add (p q:PQ):PQ:=⟨p.x+q.x,p.y+q.y⟩
def PQ.sub (p q:PQ):PQ:=⟨p.x-q.x,p.y-q.y⟩
def PQ.scale (p:PQ) (k:Rat):PQ:=⟨p.x*k,p.y*k⟩
def PQ.mix (p q:PQ) (t:Rat):PQ:=p.add ((q.sub p).scale t)
def PQ.dot (p q:PQ):Rat:=p.x*q.x+p.y*q.y
def PQ.cross (p q:PQ):Rat:=p.x*q.y-p.y*q.x
theorem gT (p q:PR) (hp:p.In 17179869184) (hq:q.In 17179869184):aa Tryz.prog 97 [p.av,q.av] (pA (p.val.add q.val)):=by
 have h:=jr 133 [] p q _ _ (by simp -implicitDefEqProofs [go_sem]) (ff p.x q.x hp.x.sm hq.x.sm) (ff p.y q.y hp.y.sm hq.y.sm)
 change aa _ _ _ (pA (p.val.add q.val)) at h
 generalize p.val.add q.val=r at *
 refine Pg Tryz.func97 rfl [.cell 4 72] rfl (gy _) ?_
 unfold pA PR.av at *
 generalize pc r=cr at *
 simp -implicitDefEqProofs [go_sem]
 refine ab h ?_
 simp -implicitDefEqProofs [go_sem,aK]
theorem dQ (p q:PR) (hp:p.In 17179869184) (hq:q.In 17179869184):aa Tryz.prog 125 [p.av,q.av] (pA (p.val.sub q.val)):=by
 have h:=jr 171 [] p q _ _ (by simp -implicitDefEqProofs [go_sem]) (jH p.x q.x hp.x.sm hq.x.sm) (jH p.y q.y hp.y.sm hq.y.sm)
 change aa _ _ _ (pA (p.val.sub q.val)) at h
 generalize p.val.sub q.val=r at *
 refine Pg Tryz.func125 rfl [.cell 4 72] rfl (gy _) ?_
 unfold pA PR.av at *
 generalize pc r=cr at *
 simp -implicitDefEqProofs [go_sem]
 refine ab h ?_
 simp -implicitDefEqProofs [go_sem,aK]
def RQ.cells (z:RQ):List AV:=[.bool z.neg,nA z.p,nA z.q]
theorem j3 (a b k:RQ) (ha:a.In 17179869184) (hk:k.In 17179869184):aa Tryz.prog 202 [a.av,b.av,.rp k.cells] (rA (a.val*k.val)):=by
 have h:=dc a k ha.sm hk.sm
 generalize a.val*k.val=r at *
 refine Pg Tryz.func202 rfl [.cell 5 27] rfl (bI _) ?_
 unfold RQ.cells rA RQ.av at *
 generalize qc r=cr at *
 simp -implicitDefEqProofs [go_sem]
 refine ab h ?_
 simp -implicitDefEqProofs [go_sem,aK]
theorem er (p:PR) (k:RQ) (hp:p.In 17179869184) (hk:k.In 17179869184):aa Tryz.prog 124 [p.av,k.av] (pA (p.val.scale k.val)):=by
 have h:=jr 202 [.rp k.cells] p p _ _ (by simp -implicitDefEqProofs [go_sem,RQ.cells]) (j3 p.x p.x k hp.x hk) (j3 p.y p.y k hp.y hk)
 change aa _ _ _ (pA (p.val.scale k.val)) at h
 generalize p.val.scale k.val=r at *
 refine Pg Tryz.func124 rfl [.cell 4 72] rfl (gy _) ?_
 unfold pA PR.av RQ.cells RQ.av at *
 generalize pc r=cr at *
 simp -implicitDefEqProofs [go_sem]
 refine bp [1] _ h (by simp -implicitDefEqProofs [go_sem]) (by simp -implicitDefEqProofs [go_sem]) (by simp -implicitDefEqProofs [go_sem]) (by simp -implicitDefEqProofs [go_sem]) ?_
 simp -implicitDefEqProofs [go_sem,aK]
theorem PQ.sz_x (p:PQ):Go.Proofs.YtdnmfaljidjijaaGreat.sz p.x≤p.sz:=Nat.le_max_left _ _
theorem PQ.sz_y (p:PQ):Go.Proofs.YtdnmfaljidjijaaGreat.sz p.y≤p.sz:=Nat.le_max_right _ _
theorem PR.In.sz {n:Nat} {z:PR} (h:z.In n) (hn:1≤n:=by omega):z.val.sz≤n:=Nat.max_le.2 ⟨h.x.sz hn,h.y.sz hn⟩
theorem PQ.sz_add (p q:PQ):(p.add q).sz≤p.sz+q.sz+1:=by
 have:=Go.Proofs.YtdnmfaljidjijaaGreat.sz_add p.x q.x; have:=Go.Proofs.YtdnmfaljidjijaaGreat.sz_add p.y q.y
 have:=p.sz_x; have:=p.sz_y; have:=q.sz_x; have:=q.sz_y
 refine Nat.max_le.2 ⟨?_,?_⟩<;>simp only [PQ.add]<;>omega
theorem PQ.sz_sub (p q:PQ):(p.sub q).sz≤p.sz+q.sz+1:=by
 have:=Go.Proofs.YtdnmfaljidjijaaGreat.sz_sub p.x q.x; have:=Go.Proofs.YtdnmfaljidjijaaGreat.sz_sub p.y q.y
 have:=p.sz_x; have:=p.sz_y; have:=q.sz_x; have:=q.sz_y
 refine Nat.max_le.2 ⟨?_,?_⟩<;>simp only [PQ.sub]<;>omega
theorem PQ.sz_scale (p:PQ) (k:Rat):(p.scale k).sz≤p.sz+Go.Proofs.YtdnmfaljidjijaaGreat.sz k:=by
 have:=cL p.x k; have:=cL p.y k
 have:=p.sz_x; have:=p.sz_y
 refine Nat.max_le.2 ⟨?_,?_⟩<;>simp only [PQ.scale]<;>omega
theorem vO (p q:PR) (t:RQ) (hp:p.In 1073741824) (hq:q.In 1073741824) (ht:t.In 1073741824):aa Tryz.prog 55 [p.av,q.av,t.av] (pA (p.val.mix q.val t.val)):=by
 have h1:=dQ q p hq.mono hp.mono
 have s1:=PQ.sz_sub q.val p.val
 have sp:=hp.sz; have sq:=hq.sz; have st:=ht.sz
 have h2:=er (pc (q.val.sub p.val)) t (bH (by omega)) ht.mono
 rw [a9] at h2
 have s2:=PQ.sz_scale (q.val.sub p.val) t.val
 have h3:=gT p (pc ((q.val.sub p.val).scale t.val)) hp.mono (bH (by omega))
 rw [a9] at h3
 change aa _ _ _ (pA (p.val.mix q.val t.val)) at h3
 generalize p.val.mix q.val t.val=r at *
 generalize (q.val.sub p.val).scale t.val=u at *
 generalize q.val.sub p.val=v at *
 refine Pg Tryz.func55 rfl [.cell 6 72] rfl (gy _) ?_
 unfold pA PR.av RQ.av at *
 generalize pc r=cr at *
 generalize pc u=cu at *
 generalize pc v=cv at *
 simp -implicitDefEqProofs [go_sem]
 refine ag h1 ?_
 simp -implicitDefEqProofs [go_sem]
 refine ag h2 ?_
 simp -implicitDefEqProofs [go_sem]
 refine ag h3 ?_
 simp -implicitDefEqProofs [go_sem,aK]
theorem nB (p q:PR) (hp:p.In 4294967296) (hq:q.In 4294967296):aa Tryz.prog 131 [p.av,q.av] (rA (p.val.dot q.val)):=by
 have sp:=hp.sz; have sq:=hq.sz
 have:=p.val.sz_x; have:=p.val.sz_y; have:=q.val.sz_x; have:=q.val.sz_y
 have h1:=dc p.x q.x hp.x.sm hq.x.sm
 have h2:=dc p.y q.y hp.y.sm hq.y.sm
 change aa _ _ _ (rA (p.val.x*q.val.x)) at h1
 change aa _ _ _ (rA (p.val.y*q.val.y)) at h2
 have s1:=cL p.val.x q.val.x
 have s2:=cL p.val.y q.val.y
 have h3:=ff (qc (p.val.x*q.val.x)) (qc (p.val.y*q.val.y)) (dZ (by omega)) (dZ (by omega))
 rw [bD,bD] at h3
 change aa _ _ _ (rA (p.val.dot q.val)) at h3
 generalize p.val.dot q.val=r at *
 generalize p.val.x*q.val.x=u at *
 generalize p.val.y*q.val.y=v at *
 refine Pg Tryz.func131 rfl [.cell 4 27] rfl (bI _) ?_
 unfold PR.av rA RQ.av at *
 generalize qc r=cr at *
 generalize qc u=cu at *
 generalize qc v=cv at *
 simp -implicitDefEqProofs [go_sem]
 refine ag h1 ?_
 simp -implicitDefEqProofs [go_sem]
 refine ag h2 ?_
 simp -implicitDefEqProofs [go_sem]
 refine ag h3 ?_
 simp -implicitDefEqProofs [go_sem,aK]
theorem qq (p q:PR) (hp:p.In 4294967296) (hq:q.In 4294967296):aa Tryz.prog 94 [p.av,q.av] (rA (p.val.cross q.val)):=by
 have sp:=hp.sz; have sq:=hq.sz
 have:=p.val.sz_x; have:=p.val.sz_y; have:=q.val.sz_x; have:=q.val.sz_y
 have h1:=dc p.x q.y hp.x.sm hq.y.sm
 have h2:=dc p.y q.x hp.y.sm hq.x.sm
 change aa _ _ _ (rA (p.val.x*q.val.y)) at h1
 change aa _ _ _ (rA (p.val.y*q.val.x)) at h2
 have s1:=cL p.val.x q.val.y
 have s2:=cL p.val.y q.val.x
 have h3:=jH (qc (p.val.x*q.val.y)) (qc (p.val.y*q.val.x)) (dZ (by omega)) (dZ (by omega))
 rw [bD,bD] at h3
 change aa _ _ _ (rA (p.val.cross q.val)) at h3
 generalize p.val.cross q.val=r at *
 generalize p.val.x*q.val.y=u at *
 generalize p.val.y*q.val.x=v at *
 refine Pg Tryz.func94 rfl [.cell 4 27] rfl (bI _) ?_
 unfold PR.av rA RQ.av at *
 generalize qc r=cr at *
 generalize qc u=cu at *
 generalize qc v=cv at *
 simp -implicitDefEqProofs [go_sem]
 refine ag h1 ?_
 simp -implicitDefEqProofs [go_sem]
 refine ag h2 ?_
 simp -implicitDefEqProofs [go_sem]
 refine ag h3 ?_
 simp -implicitDefEqProofs [go_sem,aK]
theorem PQ.ext {p q:PQ} (h1:p.x=q.x) (h2:p.y=q.y):p=q:=by cases p; cases q; simp_all
theorem PQ.eq_iff {p q:PQ}:p=q↔p.x=q.x∧p.y=q.y:=⟨fun h=>by subst h; exact ⟨rfl,rfl⟩,fun h=>PQ.ext h.1 h.2⟩
instance:DecidableEq PQ:=fun p q=>decidable_of_iff _ PQ.eq_iff.symm
theorem su (p q:PR) (hp:p.In 17179869184) (hq:q.In 17179869184):aa Tryz.prog 33 [p.av,q.av] (.bool (decide (p.val=q.val))):=by
 have h1:=gV p.x q.x hp.x.sm hq.x.sm
 have h2:=gV p.y q.y hp.y.sm hq.y.sm
 have e1 := @kB p.x.val q.x.val
 have e2 := @kB p.y.val q.y.val
 have e3:p.val=q.val↔c9 p.x.val q.x.val=0∧c9 p.y.val q.y.val=0:=by
  rw [e1,e2,PQ.eq_iff]; rfl
 simp only [e3]
 generalize c9 p.x.val q.x.val=c1 at *
 generalize c9 p.y.val q.y.val=c2 at *
 refine Pg Tryz.func33 rfl [.tmp 4] rfl (by simp -implicitDefEqProofs [go_sem]) ?_
 unfold PR.av RQ.av at *
 simp -implicitDefEqProofs [go_sem]
 refine ab h1 ?_
 by_cases hc:c1=0
 ·simp -implicitDefEqProofs [go_sem,hc]
  refine ab h2 ?_
  simp -implicitDefEqProofs [go_sem,hc]
 ·simp -implicitDefEqProofs [go_sem,hc]
def PQ.far (p q:PQ):Rat:=(p.sub q).dot (p.sub q)
theorem vN (p q:PR) (hp:p.In 1073741824) (hq:q.In 1073741824):aa Tryz.prog 132 [p.av,q.av] (rA (p.val.far q.val)):=by
 have sp:=hp.sz; have sq:=hq.sz
 have h1:=dQ p q hp.mono hq.mono
 have s1:=PQ.sz_sub p.val q.val
 have h2:=nB (pc (p.val.sub q.val)) (pc (p.val.sub q.val)) (bH (by omega)) (bH (by omega))
 rw [a9] at h2
 change aa _ _ _ (rA (p.val.far q.val)) at h2
 generalize p.val.far q.val=r at *
 generalize p.val.sub q.val=v at *
 refine Pg Tryz.func132 rfl [.cell 4 27] rfl (bI _) ?_
 unfold pA PR.av rA RQ.av at *
 generalize qc r=cr at *
 generalize pc v=cv at *
 simp -implicitDefEqProofs [go_sem]
 refine ab h1 ?_
 simp -implicitDefEqProofs [go_sem]
 refine ab h2 ?_
 simp -implicitDefEqProofs [go_sem,aK]
def PQ.orient (a b c:PQ):Int:=dC ((b.sub a).cross (c.sub a))
theorem oT (a b c:PR) (ha:a.In 1073741824) (hb:b.In 1073741824) (hc:c.In 1073741824):aa Tryz.prog 127 [a.av,b.av,c.av] (.int .i64 (PQ.orient a.val b.val c.val)):=by
 have sa:=ha.sz; have sb:=hb.sz; have sc:=hc.sz
 have h1:=dQ b a hb.mono ha.mono
 have h2:=dQ c a hc.mono ha.mono
 have s1:=PQ.sz_sub b.val a.val
 have s2:=PQ.sz_sub c.val a.val
 have h3:=qq (pc (b.val.sub a.val)) (pc (c.val.sub a.val)) (bH (by omega)) (bH (by omega))
 rw [a9,a9] at h3
 have s3:sz ((b.val.sub a.val).cross (c.val.sub a.val))≤17179869184:=by
  unfold PQ.cross
  generalize b.val.sub a.val=u at *
  generalize c.val.sub a.val=v at *
  have:=sz_sub (u.x*v.y) (u.y*v.x); have:=cL u.x v.y; have:=cL u.y v.x
  have:=u.sz_x; have:=u.sz_y; have:=v.sz_x; have:=v.sz_y
  omega
 have h4:=cK (qc ((b.val.sub a.val).cross (c.val.sub a.val))) (dZ s3).ok
 rw [bD] at h4
 change aa _ _ _ (.int .i64 (PQ.orient a.val b.val c.val)) at h4
 generalize PQ.orient a.val b.val c.val=s at *
 generalize (b.val.sub a.val).cross (c.val.sub a.val)=r at *
 generalize b.val.sub a.val=u at *
 generalize c.val.sub a.val=v at *
 refine Pg Tryz.func127 rfl [.tmp 6] rfl (by simp -implicitDefEqProofs [go_sem]) ?_
 unfold pA PR.av rA RQ.av at *
 generalize qc r=cr at *
 generalize pc u=cu at *
 generalize pc v=cv at *
 simp -implicitDefEqProofs [go_sem]
 refine ag h1 ?_
 simp -implicitDefEqProofs [go_sem]
 refine ag h2 ?_
 simp -implicitDefEqProofs [go_sem]
 refine ag h3 ?_
 simp -implicitDefEqProofs [go_sem]
 refine ag h4 ?_
 simp -implicitDefEqProofs [go_sem]
def eJ:Rat:=((1:Int):Rat) / ((2:Int):Rat)
theorem ud:sz eJ≤1:=by
 unfold eJ
 rw [n8]
 have:=mj (if (2:Int)<0 then -1 else 1) (d:=(2:Int).natAbs) (by decide)
 simp at this ⊢
 have h1:nl 1=1:=fK
 have h2:nl 2≤1:=qe (by omega)
 omega
theorem j4 (x:Rat):0≤x*x:=by
 rcases (Rat.le_total:0≤x∨x≤0) with h|h
 ·exact Rat.mul_nonneg h h
 ·have:=Rat.mul_nonneg (show 0 ≤ -x by grind) (show 0 ≤ -x by grind)
  grind
theorem l_ (h:RQ):roL [.bool h.neg,nA h.p,nA h.q]:=by simp -implicitDefEqProofs [go_sem]
theorem PQ.sz_dot (p q:PQ):Go.Proofs.YtdnmfaljidjijaaGreat.sz (p.dot q)≤2*(p.sz+q.sz)+1:=by
 have h1:=cL p.x q.x; have h2:=cL p.y q.y
 have h3:=Go.Proofs.YtdnmfaljidjijaaGreat.sz_add (p.x*q.x) (p.y*q.y)
 have:=p.sz_x; have:=p.sz_y; have:=q.sz_x; have:=q.sz_y
 unfold PQ.dot; omega
theorem PQ.sz_far (p q:PQ):Go.Proofs.YtdnmfaljidjijaaGreat.sz (p.far q)≤4*(p.sz+q.sz+1)+1:=by
 have h1:=PQ.sz_sub p q
 have h2:=PQ.sz_dot (p.sub q) (p.sub q)
 unfold PQ.far; omega
theorem PQ.sz_mix (p q:PQ) (t:Rat):(p.mix q t).sz≤2*p.sz+q.sz+Go.Proofs.YtdnmfaljidjijaaGreat.sz t+2:=by
 have q1:=PQ.sz_sub q p
 have q2:=PQ.sz_scale (q.sub p) t
 have q3:=PQ.sz_add p ((q.sub p).scale t)
 unfold PQ.mix; omega
theorem o4 {x:Rat}:dC x≤0↔x≤0:=by
 have := @o1 x
 constructor
 ·intro h; rcases (Rat.le_total:x≤0∨0≤x) with h1|h1
  ·exact h1
  ·have:¬0<x:=fun h2=>by have:=this.2 h2; omega
   grind
 ·intro h
  have:¬0<dC x:=fun h2=>by have:=this.1 h2; grind
  omega
theorem sY {x y:Rat}:c9 x y≤0↔x≤y:=by
 have := @fD x y
 constructor
 ·intro h; rcases (Rat.le_total:x≤y∨y≤x) with h1|h1
  ·exact h1
  ·have:¬y<x:=fun h2=>by have:=this.2 h2; omega
   grind
 ·intro h
  have:¬0<c9 x y:=fun h2=>by have:=this.1 h2; grind
  omega
theorem jJ:sz (1:Rat)=1:=by
 have:=sN 1
 rw [show ((1:Int):Rat)=1 by rfl] at this
 rw [this,show (1:Int).natAbs=1 by rfl,fK]; rfl
theorem Dn (x:Rat):1≤sz x:=by
 have h1:=bv x
 have h2:=dK (Nat.one_le_iff_ne_zero.2 x.den_nz)
 rw [fK] at h2
 omega
theorem Dm (x:Rat):sz x⁻¹≤sz x:=by
 have h0:=Dn x
 have h1:=bz x
 have h2:=bv x
 have e1:nl (x⁻¹).num.natAbs≤nl x.den:=by
  rw [Rat.num_inv,Int.natAbs_mul]
  refine dK ?_
  have:x.num.sign.natAbs≤1:=by
   rcases Int.sign_trichotomy x.num with h|h|h<;>rw [h]<;>decide
  calc x.num.sign.natAbs*(x.den:Int).natAbs≤1*(x.den:Int).natAbs:=Nat.mul_le_mul_right _ this
   _=x.den:=by simp
 have e2:nl (x⁻¹).den≤sz x:=by
  rw [Rat.den_inv]
  split
  ·rw [fK]; exact h0
  ·exact h1
 conv=>lhs; unfold sz
 omega
theorem o_ (x y:Rat):sz (x / y)≤sz x+sz y:=by
 rw [Rat.div_def]
 have:=cL x y⁻¹
 have:=Dm y
 omega
theorem pe {p q:Int} (hp : -9223372036854775808≤p∧p≤9223372036854775807) (hq : -9223372036854775808≤q∧q≤9223372036854775807) (h0:q≠0):sz ((p:Rat) / (q:Rat))≤1:=by
 rw [n8]
 have h:=mj (if q<0 then -p else p) (d:=q.natAbs) (by omega)
 have h1:=iI hp
 have h2:=iI hq
 have h3:(if q<0 then -p else p).natAbs=p.natAbs:=by split<;>simp
 rw [h3] at h
 omega
theorem p8:aN 18446744073709551616 []:=fun _ h=>by cases h
def wF:RQ:=⟨false,[],[]⟩
theorem sw {n:Nat}:wF.In n:=⟨Nat.zero_le _,p8,Nat.zero_le _,p8⟩
theorem py {f:Nat→BS} {sz id:Nat} {L:List AV} (hr:roL L) (h:L≠[]→f id = .live sz L):au f (cF sz id L)∧ro (aB f (cF sz id L))∧Wk (aB f (cF sz id L)) (.sl sz false L):=by
 by_cases h0:L=[]
 ·subst h0
  refine ⟨by simp [cF,au,fitsL],by simp [cF,aB,ro,roL],?_⟩
  simp only [cF,if_true,aB]
  exact Wk.nil 0 sz true
 ·rw [aT h0]
  simp only [au,aB,h h0,Nat.zero_add,List.drop_zero,List.take_length,ro]
  exact ⟨Nat.le_refl _,hr,Wk.refl _⟩
def eA (p:PQ):AV := .agg [.bool (decide (p.x.num<0)),qA p.x.num.natAbs,qA p.x.den,.bool (decide (p.y.num<0)),qA p.y.num.natAbs,qA p.y.den]
theorem yX (p:PQ):ro (eA p):=by unfold eA qA; simp -implicitDefEqProofs [go_sem]
theorem xp (x y:Int) (hx : -9223372036854775808≤x∧x≤9223372036854775807) (hy : -9223372036854775808≤y∧y≤9223372036854775807):aa Tryz.prog 138 [.int .i64 x,.int .i64 y] (eA ⟨x,y⟩):=by
 have h1:=pQ x 1 hx (by omega) (by omega)
 have h2:=pQ y 1 hy (by omega) (by omega)
 rw [show ((x:Int):Rat) / ((1:Int):Rat)=x by rw [show ((1:Int):Rat)=1 from rfl]; grind] at h1
 rw [show ((y:Int):Rat) / ((1:Int):Rat)=y by rw [show ((1:Int):Rat)=1 from rfl]; grind] at h2
 unfold eA
 simp only
 generalize (x:Rat)=rx at *
 generalize (y:Rat)=ry at *
 refine Pg Tryz.func138 rfl [.cell 4 118] rfl (by simp -implicitDefEqProofs [go_sem,qA]) ?_
 unfold fA qA at *
 simp -implicitDefEqProofs [go_sem]
 refine ab h1 ?_
 simp -implicitDefEqProofs [go_sem]
 refine ab h2 ?_
 simp -implicitDefEqProofs [go_sem,aK]
theorem jx (p:PQ) (h:p.sz<549755813888):aa Tryz.prog 56 [eA p] (pA p):=by
 have:=p.sz_x; have:=p.sz_y
 have h1:=mZ p.x (by omega)
 have h2:=mZ p.y (by omega)
 unfold pA pc PR.av
 refine Pg Tryz.func56 rfl [.cell 2 72] rfl (l7 _) ?_
 unfold eA fA rA RQ.av qA at *
 simp only at *
 generalize qc p.x=c1 at *
 generalize qc p.y=c2 at *
 simp -implicitDefEqProofs [go_sem]
 refine ag h1 ?_
 simp -implicitDefEqProofs [go_sem]
 refine ag h2 ?_
 simp -implicitDefEqProofs [go_sem,aK]
theorem pf {x:Int} (hx : -9223372036854775808≤x∧x≤9223372036854775807):sz (x:Rat)≤1:=by
 rw [sN]; have:=iI hx; omega
theorem AN (x y:Int) (hx : -9223372036854775808≤x∧x≤9223372036854775807) (hy : -9223372036854775808≤y∧y≤9223372036854775807):aa Tryz.prog 67 [.int .i64 x,.int .i64 y] (pA ⟨x,y⟩):=by
 have h1:=xp x y hx hy
 have h2:=jx ⟨x,y⟩ (by
  have:=pf hx; have:=pf hy
  unfold PQ.sz; simp only; omega)
 generalize (⟨x,y⟩:PQ)=p at *
 refine Pg Tryz.func67 rfl [.cell 4 72] rfl (gy _) ?_
 unfold eA pA PR.av qA at *
 generalize pc p=c at *
 simp -implicitDefEqProofs [go_sem]
 refine ab h1 ?_
 simp -implicitDefEqProofs [go_sem]
 refine ab h2 ?_
 simp -implicitDefEqProofs [go_sem,aK]
def pZ:AV := .agg [.bool false,.sl 0 true [],.sl 0 true [],.bool false,.sl 0 true [],.sl 0 true []]
theorem eo (p q:PQ) (hp:p.sz≤17179869184) (hq:q.sz≤17179869184):aa Tryz.prog 33 [pA p,pA q] (.bool (decide (p=q))):=by
 have h:=su (pc p) (pc q) (bH hp) (bH hq)
 rw [a9,a9] at h
 exact h
def wP (x y:Int):PQ:=⟨x,y⟩
theorem GL {x y:Int} (hx : -1000≤x∧x≤1000) (hy : -1000≤y∧y≤1000):(wP x y).sz≤1:=by
 have:=pf (x:=x) (by omega); have:=pf (x:=y) (by omega)
 unfold PQ.sz wP; simp only; omega
theorem pm (x y:Int) (hx : -1000≤x∧x≤1000) (hy : -1000≤y∧y≤1000):aa Tryz.prog 67 [.int .i64 x,.int .i64 y] (pA (wP x y)):=AN x y (by omega) (by omega)
structure HR.In (n:Nat) (h:HR):Prop where
 x:h.x.In n
 y:h.y.In n
 w:h.w.In n
theorem HR.In.mono {n m:Nat} {z:HR} (h:z.In n) (hn:n≤m:=by omega):z.In m:=⟨h.x.mono hn,h.y.mono hn,h.w.mono hn⟩
theorem HQ.sz_x (h:HQ):Go.Proofs.YtdnmfaljidjijaaGreat.sz h.x≤h.sz:=by unfold HQ.sz; omega
theorem HQ.sz_y (h:HQ):Go.Proofs.YtdnmfaljidjijaaGreat.sz h.y≤h.sz:=by unfold HQ.sz; omega
theorem HQ.sz_w (h:HQ):Go.Proofs.YtdnmfaljidjijaaGreat.sz h.w≤h.sz:=by unfold HQ.sz; omega
theorem nf {n:Nat} {h:HQ} (hs:h.sz≤n):(hc h).In n:=⟨ew (Nat.le_trans h.sz_x hs),ew (Nat.le_trans h.sz_y hs),ew (Nat.le_trans h.sz_w hs)⟩
theorem HR.In.sz {n:Nat} {z:HR} (h:z.In n) (hn:1≤n:=by omega):z.val.sz≤n:=by
 have:=h.x.sz hn; have:=h.y.sz hn; have:=h.w.sz hn
 unfold HQ.sz HR.val; simp only; omega
theorem BE (h:HQ):ro (hA h):=lZ _
def aR (a b:Rat):Rat:=(a+b)*eJ
theorem vC (a:Rat):aR a a=a:=by
 unfold aR eJ
 grind
theorem ph (a b:Rat):sz (aR a b)≤sz a+sz b+2:=by
 have:=sz_add a b; have:=cL (a+b) eJ; have:=ud
 unfold aR; omega
theorem lI (a b:RQ) (ha:a.In 4294967296) (hb:b.In 4294967296):aa Tryz.prog 323 [a.av,b.av] (rA (aR a.val b.val)):=by
 have sa:=ha.sz; have sb:=hb.sz
 have h1:=ff a b ha.sm hb.sm
 have h2:=gz 1 2 (by omega) (by omega) (by omega)
 have s1:=sz_add a.val b.val
 have h3:=dc (qc (a.val+b.val)) (qc eJ) (dZ (by omega)) (dZ (by have:=ud; omega))
 rw [bD,bD] at h3
 change aa _ _ _ (rA (aR a.val b.val)) at h3
 change aa _ _ _ (rA eJ) at h2
 generalize aR a.val b.val=r at *
 generalize a.val+b.val=u at *
 refine Pg Tryz.func323 rfl [.cell 4 27] rfl (bI _) ?_
 unfold rA RQ.av at *
 generalize qc r=cr at *
 generalize qc u=cu at *
 generalize qc eJ=ch at *
 simp -implicitDefEqProofs [go_sem]
 refine ab h1 ?_
 simp -implicitDefEqProofs [go_sem]
 refine ab h2 ?_
 simp -implicitDefEqProofs [go_sem]
 refine ab h3 ?_
 simp -implicitDefEqProofs [go_sem,aK]
def HQ.mid (a b:HQ):HQ:=⟨aR a.x b.x,aR a.y b.y,aR a.w b.w⟩
theorem HQ.mid_self (a:HQ):a.mid a=a:=by unfold HQ.mid; simp only [vC]
theorem HQ.sz_mid (a b:HQ):(a.mid b).sz≤a.sz+b.sz+2:=by
 have:=ph a.x b.x; have:=ph a.y b.y; have:=ph a.w b.w
 have:=a.sz_x; have:=a.sz_y; have:=a.sz_w; have:=b.sz_x; have:=b.sz_y; have:=b.sz_w
 unfold HQ.mid
 conv=>lhs; unfold HQ.sz
 simp only
 omega
theorem jX (a b:HR) (ha:a.In 4294967296) (hb:b.In 4294967296):aa Tryz.prog 304 [a.av,b.av] (hA (a.val.mid b.val)):=by
 have h1:=lI a.x b.x ha.x hb.x
 have h2:=lI a.y b.y ha.y hb.y
 have h3:=lI a.w b.w ha.w hb.w
 unfold hA HQ.mid hc HR.val
 simp only
 generalize aR a.x.val b.x.val=r1 at *
 generalize aR a.y.val b.y.val=r2 at *
 generalize aR a.w.val b.w.val=r3 at *
 refine Pg Tryz.func304 rfl [.cell 4 293] rfl (lZ _) ?_
 unfold HR.av rA RQ.av at *
 simp only at *
 generalize qc r1=c1 at *
 generalize qc r2=c2 at *
 generalize qc r3=c3 at *
 simp -implicitDefEqProofs [go_sem]
 refine ag h1 ?_
 simp -implicitDefEqProofs [go_sem]
 refine ag h2 ?_
 simp -implicitDefEqProofs [go_sem]
 refine ag h3 ?_
 simp -implicitDefEqProofs [go_sem,aK]
theorem lu (a:HR) (ha:a.In 4294967296):aa Tryz.prog 303 [a.av] (hA a.val):=by
 have h:=jX a a ha ha
 rw [HQ.mid_self] at h
 refine Pg Tryz.func303 rfl [.cell 2 293] rfl (lZ _) ?_
 unfold hA HR.av at *
 generalize hc a.val=r at *
 simp -implicitDefEqProofs [go_sem]
 refine ab h ?_
 simp -implicitDefEqProofs [go_sem,aK]
def cn (l:List HQ):Prop:=(∀h∈l,0<h.w)∧2≤l.length∧l.length≤4
instance (l:List HQ):Decidable (cn l):=inferInstanceAs (Decidable (_∧_))
theorem mD {l:List HQ} {i:Nat} (hi:i<l.length) {P:HQ→Prop}:(∀h∈l.take (i+1),P h)↔(∀h∈l.take i,P h)∧P l[i]:=by
 have e:l.take (i+1)=l.take i++[l[i]]:=List.take_succ_eq_append_getElem hi
 constructor
 ·intro g
  rw [e] at g
  exact ⟨fun h hh=>g h (List.mem_append_left _ hh),g _ (List.mem_append_right _ (List.mem_singleton_self _))⟩
 ·rintro ⟨g1,g2⟩ h hh
  rw [e] at hh
  rcases List.mem_append.1 hh with h1|h1
  ·exact g1 h h1
  ·rw [List.mem_singleton.1 h1]; exact g2
theorem dV (l:List HR) (hl:l.length<1099511627776) (hz:∀h∈l,h.w.Ok):aa Tryz.prog 261 [hL l] (.bool (decide (cn (l.map HR.val)))):=by
 refine Pg Tryz.func261 rfl [.tmp 2] rfl (by simp -implicitDefEqProofs [go_sem]) ?_
 unfold hL
 simp -implicitDefEqProofs [go_sem]
 refine aj 19 (α:={i:Nat // i≤l.length∧∀h∈(l.map HR.val).take i,0<h.w}) (fun i=>[(0,hL l),(5,hL l),(6,.int .i64 l.length),(7,.int .i64 i.1)]) (fun i=>[]) (fun i=>l.length-i.1) ⟨0,by simp⟩ [] (by simp) (by simp) (by simp) (by simp -implicitDefEqProofs [go_sem,hL]) (by simp -implicitDefEqProofs [go_sem]) fun ⟨i,hi,hw⟩=>?_
 simp -implicitDefEqProofs [go_sem,hL]
 refine ⟨fun h=>?_,fun h=>?_⟩
 ·have hg:=kC (l:=l) (i:=i) h
  have hs:=cK l[i].w (hz _ (List.getElem_mem h))
  have es:=wS i (by omega)
  have hgt := @o1 l[i].w.val
  generalize dC l[i].w.val=s at *
  simp only [HR.av] at hg
  unfold RQ.av at hs
  simp -implicitDefEqProofs [go_sem,hg]
  refine ⟨h,ab hs ?_⟩
  by_cases h0:s≤0
  ·simp -implicitDefEqProofs [go_sem,h0]
   intro hG
   have h1:=hG.1 l[i].val (List.mem_map.2 ⟨_,List.getElem_mem h,rfl⟩)
   have:=hgt.2 h1
   omega
  ·simp -implicitDefEqProofs [go_sem,h0,es]
   refine ac ⟨i+1,Nat.succ_le_of_lt h,?_⟩ (by simp only; omega) [] (by simp) (by simp) (by simp) (by simp -implicitDefEqProofs [go_sem,hL]) (by simp -implicitDefEqProofs [go_sem])
   rw [mD (by simpa using h)]
   refine ⟨hw,?_⟩
   rw [List.getElem_map]
   exact hgt.1 (by omega)
 ·have hii:i=l.length:=by omega
  have hall:∀h∈l.map HR.val,0<h.w:=by rw [List.take_of_length_le (by simp; omega)] at hw; exact hw
  unfold cn
  simp only [List.length_map]
  exact ⟨fun h2=>⟨fun h4=>⟨hall,by omega,by omega⟩,fun g=>by have:=g.2.2; omega⟩,fun h2 g=>by have:=g.2.1; omega⟩
def jF:List HQ→List HQ
 | a::b::r=>a.mid b::jF (b::r)
 | _=>[]
theorem e_:∀l:List HQ,(jF l).length=l.length-1
 | []=>rfl
 | [_]=>rfl
 | a::b::r=>by simp only [jF,List.length_cons,e_ (b::r)]; omega
theorem lJ:∀(l:List HQ) (i:Nat) (h:i+1<l.length),(jF l)[i]'(by rw [e_]; omega)=l[i].mid l[i+1]
 | [],i,h=>by simp at h
 | [_],i,h=>by simp at h
 | a::b::r,0,h=>rfl
 | a::b::r,i+1,h=>by
  have:=lJ (b::r) i (by simpa using h)
  simpa [jF] using this
def ed:Nat→List HQ→List HQ
 | 0,l=>l
 | i+1,l=>jF (ed i l)
theorem qM (i:Nat) (l:List HQ):(ed i l).length=l.length-i:=by
 induction i with
 | zero=>rfl
 | succ i ih=>simp only [ed,e_,ih]; omega
def hQ0:HQ:=⟨0,0,0⟩
def bk:Nat→List HQ→List HQ
 | 0,_=>[]
 | i+1,l=>bk i l++[(ed i l).headD hQ0]
def bm:Nat→List HQ→List HQ
 | 0,_=>[]
 | i+1,l=>(ed i l).getLastD hQ0::bm i l
theorem fZ (i:Nat) (l:List HQ):(bk i l).length=i:=by
 induction i with
 | zero=>rfl
 | succ i ih=>simp [bk,ih]
theorem f_ (i:Nat) (l:List HQ):(bm i l).length=i:=by
 induction i with
 | zero=>rfl
 | succ i ih=>simp [bm,ih]
theorem ym {l:List HQ} {n:Nat} (h:∀x∈l,x.sz≤n):∀x∈jF l,x.sz≤2*n+2:=by
 intro x hx
 obtain ⟨i,hi,rfl⟩:=List.mem_iff_getElem.1 hx
 rw [e_] at hi
 rw [lJ l i (by omega)]
 have h1:=h l[i] (List.getElem_mem _)
 have h2:=h l[i+1] (List.getElem_mem _)
 have:=HQ.sz_mid l[i] l[i+1]
 omega
theorem y8 {l:List HQ} {n:Nat} (hn:1≤n) (h:∀x∈l,x.sz≤n) (i:Nat):∀x∈ed i l,x.sz≤4 ^ i*n:=by
 induction i with
 | zero=>intro x hx; have:=h x hx; omega
 | succ i ih =>
  intro x hx
  have h1:=ym ih x hx
  have h2:1*1≤4 ^ i*n:=Nat.mul_le_mul (Nat.pow_pos (by omega)) hn
  rw [Nat.pow_succ,Nat.mul_comm (4 ^ i) 4,Nat.mul_assoc]
  omega
def hZ:AV := .agg [.bool false,.sl 0 true [],.sl 0 true [],.bool false,.sl 0 true [],.sl 0 true [],.bool false,.sl 0 true [],.sl 0 true []]
def jz (z:AV) (a:List AV) (n:Nat):List AV:=a++List.replicate (n-a.length) z
theorem dI {z:AV} {a:List AV} {n:Nat} (h:a.length≤n):(jz z a n).length=n:=by simp [jz]; omega
theorem oh {z:AV} {a:List AV} {n:Nat} (x:AV) (h:a.length<n):(jz z a n).set a.length x=jz z (a++[x]) n:=by
 unfold jz
 obtain ⟨k,hk⟩:∃k,n-a.length=k+1:=⟨n-a.length-1,by omega⟩
 rw [List.set_append_right _ _ (Nat.le_refl _),Nat.sub_self,hk,List.replicate_succ,List.set_cons_zero]
 simp only [List.length_append,List.length_singleton]
 rw [show n-(a.length+1)=k by omega]
 simp
theorem rO {z:AV} {a:List AV} {n i:Nat} (h:a.length≤i) (hi:i<n):(jz z a n)[i]?.getD AV.any=z:=by
 unfold jz
 rw [List.getElem?_append_right h,List.getElem?_replicate,if_pos (by omega)]; rfl
theorem k_ {z:AV} {a:List AV} {n:Nat} (h:a.length=n):jz z a n=a:=by unfold jz; rw [h,Nat.sub_self]; simp
theorem og (z:AV) (n:Nat):List.replicate n z=jz z [] n:=by simp [jz]
theorem je {z:AV} {a:List AV} {n:Nat} (hz:ro z) (ha:roL a):roL (jz z a n):=aI.2 ⟨ha,eE.2 fun x hx=>by rw [(List.mem_replicate.1 hx).2]; exact hz⟩
theorem qH:ro hZ:=by unfold hZ; simp -implicitDefEqProofs [go_sem]
def qL (l:List HQ):AV := .sl 9 false (l.map hA)
@[go_sem] theorem dA (l:List HQ):roL (l.map hA):=br BE
theorem tZ (l:List HQ):ro (qL l):=by unfold qL; simp only [ro]; exact dA l
theorem Gz (l:List HQ):hL (l.map hc)=qL l:=by unfold hL qL; rw [List.map_map]; rfl
@[go_sem] theorem H5 (rn:Nat→Nat) (l:List HQ):renL rn (l.map hA)=l.map hA:=renL_ro rn _ (dA l)
@[go_sem] theorem Hh (n:Nat) (l:List HQ):cloL n (l.map hA):=cloL_ro _ (dA l)
@[go_sem] theorem Fz (f:Nat→BS) (l:List HQ):fitsL f (l.map hA):=fitsL_ro f _ (dA l)
@[go_sem] theorem GQ (f:Nat→BS) (l:List HQ):viewL f (l.map hA)=l.map hA:=viewL_ro f _ (dA l)
@[go_sem] theorem yW (n:Nat) (l:List HQ):roL (jz hZ (l.map hA) n):=je qH (dA l)
@[go_sem] theorem H3 (rn:Nat→Nat) (n:Nat) (l:List HQ):renL rn (jz hZ (l.map hA) n)=jz hZ (l.map hA) n:=renL_ro rn _ (yW n l)
@[go_sem] theorem Hf (m n:Nat) (l:List HQ):cloL m (jz hZ (l.map hA) n):=cloL_ro _ (yW n l)
@[go_sem] theorem yV (n:Nat):roL (jz hZ [] n):=je qH trivial
@[go_sem] theorem H0 (rn:Nat→Nat) (n:Nat):renL rn (jz hZ [] n)=jz hZ [] n:=renL_ro rn _ (yV n)
@[go_sem] theorem He (m n:Nat):cloL m (jz hZ [] n):=cloL_ro _ (yV n)
theorem iE (h:HR):∃cs,h.av = .agg cs∧cs.length=9∧cs.take 9=cs∧roL cs:=by
 have:=lZ h
 unfold HR.av at this ⊢
 exact ⟨_,rfl,rfl,rfl,by simpa only [ro] using this⟩
def fV (z:AV) (A C:List AV) (n i:Nat):List AV:=jz z A n++(List.replicate (n-i) z++C)
theorem xb {z:AV} {A C:List AV} {n i:Nat} (hA:A.length=i) (hC:C.length=i) (hi:i≤n):(fV z A C n i).length=n+n:=by
 unfold fV; rw [List.length_append,dI (by omega),List.length_append,List.length_replicate]; omega
theorem w9 {z:AV} {A C:List AV} {n i:Nat} (hA:A.length=i) (hi:i<n):(fV z A C n i)[i]?.getD AV.any=z:=by
 unfold fV
 rw [List.getElem?_append_left (by rw [dI (by omega)]; exact hi)]
 exact rO (by omega) hi
theorem w_ {z x:AV} {A C:List AV} {n i k:Nat} (hA:A.length=i) (hk:n=i+k+1):((fV z A C n i).set i x)[n+k]?.getD AV.any=z:=by
 rw [List.getElem?_set_ne (by omega)]
 unfold fV
 rw [List.getElem?_append_right (by rw [dI (by omega)]; omega),dI (by omega),List.getElem?_append_left (by rw [List.length_replicate]; omega),List.getElem?_replicate,if_pos (by omega)]; rfl
theorem xd {z x y:AV} {A C:List AV} {n i k:Nat} (hA:A.length=i) (hk:n=i+k+1):((fV z A C n i).set i x).set (n+k) y=fV z (A++[x]) (y::C) n (i+1):=by
 have h1:=oh (z:=z) (a:=A) (n:=n) x (by omega)
 rw [hA] at h1
 unfold fV
 rw [List.set_append_left _ _ (by rw [dI (by omega)]; omega),h1,List.set_append_right _ _ (by rw [dI (by simp; omega)]; omega),dI (by simp; omega)]
 congr 1
 rw [show n+k-n=k by omega,show n-i=k+1 by omega,show n-(i+1)=k by omega]
 rw [List.replicate_succ',List.append_assoc,List.set_append_right _ _ (by simp)]
 simp
theorem uI (z:AV) (n:Nat):List.replicate (n+n) z=fV z [] [] n 0:=by
 unfold fV; rw [←og]; simp
theorem yT {z:AV} {A C:List AV} {n i:Nat} (hz:ro z) (hA:roL A) (hC:roL C):roL (fV z A C n i) :=
 aI.2 ⟨je hz hA,aI.2 ⟨eE.2 fun x hx=>by rw [(List.mem_replicate.1 hx).2]; exact hz,hC⟩⟩
theorem xf (l:List HR) (hz:∀h∈l,h.In 16777216) (hG:cn (l.map HR.val)):aa Tryz.prog 264 [hL l] (.tup [qL (bk l.length (l.map HR.val)),qL (bm l.length (l.map HR.val)),.int .i64 0]):=by
 have hg:=dV l (by have:=hG.2.2; simp at this; omega) (fun h hh=>(hz h hh).w.sm.ok)
 rw [decide_eq_true hG] at hg
 have hn2:2≤l.length:=by have:=hG.2.1; simpa using this
 have hn4:l.length≤4:=by have:=hG.2.2; simpa using this
 obtain ⟨v,hv⟩:∃v,v=l.map HR.val:=⟨_,rfl⟩
 rw [←hv]
 have hvl:v.length=l.length:=by rw [hv]; simp
 refine Pg Tryz.func264 rfl [.tmp 2,.tmp 3,.tmp 4] rfl (by simp only [ro,roL]; exact ⟨tZ _,tZ _,trivial,trivial⟩) ?_
 obtain ⟨n,hn⟩:∃n,n=l.length:=⟨_,rfl⟩
 unfold hL qL at *
 simp -implicitDefEqProofs [go_sem]
 refine ab hg ?_
 simp -implicitDefEqProofs [go_sem]
 refine ⟨by omega,?_⟩
 rw [←hn] at hvl hn2 hn4 ⊢
 change go _ _ _ _ _ _ (ap (fun x=>BS.fresh) 0 (BS.live 9 (List.replicate n hZ))) _
 rw [og hZ n]
 obtain ⟨cz,z1,z2,z3⟩:∃cz,hZ = .agg cz∧cz.drop 9=[]∧cz.length=9:=⟨_,rfl,rfl,rfl⟩
 obtain ⟨V,hV⟩:∃V,V=v.map hA:=⟨_,rfl⟩
 have hVl:V.length=n:=by rw [hV]; simp [hvl]
 have hVr:roL V:=by rw [hV]; exact dA v
 have hVt:∀i,roL (jz hZ (V.take i) n):=fun i=>je qH (cd hVr)
 refine aj 9 (α:={i:Nat // i≤n}) (fun i=>[(0,hL l),(5,.own 9 0 0 n),(19,hL l),(20,.int .i64 n),(21,.int .i64 i.1)]) (fun i=>[(0,.live 9 (jz hZ (V.take i.1) n))]) (fun i=>n-i.1) ⟨0,by omega⟩ [] (by simp) (by simp) (by simp) (by simp -implicitDefEqProofs [go_sem,hL,←hn]) (by simp -implicitDefEqProofs [go_sem]) fun ⟨i,hi⟩=>?_
 simp -implicitDefEqProofs [go_sem,hL]
 refine ⟨fun h=>?_,fun h=>?_⟩
 ·have hge:=kC (l:=l) (i:=i) (by omega)
  have hgd:=lu l[i] (hz _ (List.getElem_mem _)).mono
  have hvi:l[i].val=v[i]'(by omega):=by subst hv; simp
  rw [hvi] at hgd
  have es:=wS i (by omega)
  have htl:(V.take i).length=i:=by rw [List.length_take]; omega
  have hat:=rO (z:=hZ) (a:=V.take i) (n:=n) (i:=i) (by omega) (by omega)
  obtain ⟨c1,k1,k2,k3,k4⟩:=iE l[i]
  obtain ⟨c2,m1,m2,m3,m4⟩:=iE (hc v[i])
  change hA v[i]=_ at m1
  have hst:=oh (z:=hZ) (a:=V.take i) (n:=n) (.agg c2) (by omega)
  have hsucc:V.take i++[.agg c2]=V.take (i+1):=by
   rw [List.take_succ_eq_append_getElem (by omega),←m1]; subst hV; simp
  rw [htl,hsucc] at hst
  rw [k1] at hge hgd
  rw [m1] at hgd
  have r0:=renL_ro (nm []) _ (hVt (i+1))
  have r1:=cloL_ro (n:=9) _ (hVt (i+1))
  have hfl:=dI (z:=hZ) (a:=V.take i) (n:=n) (by omega)
  have hat:=hat.trans z1
  simp -implicitDefEqProofs [go_sem,hge,k2,k3]
  refine ⟨by omega,ao _ hgd (by simp [go_sem,k4]) ?_⟩
  simp -implicitDefEqProofs [go_sem,hat,hfl,m2,m3,z2,z3,es,hst]
  refine ⟨by omega,ac ⟨i+1,by omega⟩ (by simp only; omega) [] (by simp) (by simp) (by simp) (by simp -implicitDefEqProofs [go_sem,hL]) (by simp -implicitDefEqProofs [go_sem,r0,r1])⟩
 ·have hin:i=n:=by omega
  subst hin
  have hff:jz hZ (V.take i) i=V:=by rw [List.take_of_length_le (by omega)]; exact k_ hVl
  rw [hff]
  clear hi
  have e2:IntKind.i64.wrap (2*(l.length:Int))=(i+i:Nat):=by rw [bQ (by omega)]; omega
  obtain ⟨m,hm⟩:∃m,m=i+i:=⟨_,rfl⟩
  rw [←hm] at e2
  rw [e2,←hn]
  simp -implicitDefEqProofs [go_sem]
  refine ⟨by omega,by omega,?_⟩
  have hvs:∀x∈v,x.sz≤16777216:=by
   intro x hx
   rw [hv] at hx
   obtain ⟨y,hy,rfl⟩:=List.mem_map.1 hx
   exact (hz y hy).sz
  have hrs:∀j,j≤4→∀x∈ed j v,x.sz≤4294967296:=fun j hj x hx=>by
   have h1:=y8 (by omega) hvs j x hx
   have h2:4 ^ j≤4 ^ 4:=Nat.pow_le_pow_right (by omega) hj
   have h3:4 ^ j*16777216≤4 ^ 4*16777216:=Nat.mul_le_mul_right _ h2
   omega
  have hmi:m-i=i:=by omega
  rw [hmi]
  change go _ _ _ _ _ _ (dB 22 (ap (ap (hp 9 []) 0 (BS.live 9 V)) 9 (BS.live 9 (List.replicate m hZ)))) _
  rw [hm,uI]
  have hBr:∀j,roL (fV hZ ((bk j v).map hA) ((bm j v).map hA) i j):=fun j=>yT qH (dA _) (dA _)
  have hRr:∀j,roL ((ed j v).map hA):=fun j=>dA _
  clear hz hg
  refine aj 29 (α:={j:Nat // j≤i}) (fun j=>[(0,hL l),(2,.own 9 9 0 i),(3,.own 9 9 i i),(5,.own 9 0 0 ((ed j.1 v).map hA).length),(47,.int .i64 i),(48,.int .i64 j.1)]) (fun j=>[(0,.live 9 ((ed j.1 v).map hA)),(9,.live 9 (fV hZ ((bk j.1 v).map hA) ((bm j.1 v).map hA) i j.1))]) (fun j=>i-j.1) ⟨0,by omega⟩ [] (by simp) (fun _ _ _ _ h=>h) (by omega) (by simp -implicitDefEqProofs [go_sem,hL,ed,hvl]) (by simp -implicitDefEqProofs [go_sem,ed,bk,bm,←hV]; exact ⟨⟨(renL_ro _ _ hVr).symm,cloL_ro _ hVr⟩,(renL_ro _ _ (by have:=hBr 0; simpa [bk,bm] using this)).symm,cloL_ro _ (by have:=hBr 0; simpa [bk,bm] using this)⟩) fun ⟨j,hj⟩=>?_
  simp -implicitDefEqProofs [go_sem,hL]
  refine ⟨fun h=>?_,fun h=>?_⟩
  ·have hrl:=qM j v
   have hrz:=hrs j (by omega)
   have hRL:=hRr j
   have cL1:bk (j+1) v=bk j v++[(ed j v).headD hQ0]:=rfl
   have cR1:bm (j+1) v=(ed j v).getLastD hQ0::bm j v:=rfl
   have rN1:ed (j+1) v=jF (ed j v):=rfl
   have hB1:=hBr (j+1)
   obtain ⟨ρ,hρ⟩:∃ρ,ρ=ed j v:=⟨_,rfl⟩
   rw [←hρ] at hrl hrz hRL cL1 cR1 rN1
   obtain ⟨k,hk⟩:∃k,i=j+k+1:=⟨i-j-1,by omega⟩
   have hρk:ρ.length=k+1:=by omega
   have e1:IntKind.i64.wrap ((ρ.length:Int)-1)=(k:Nat):=by rw [bQ (by omega)]; omega
   obtain ⟨c0,k1,k2,k3,k4⟩:=iE (hc ρ[0])
   obtain ⟨ck,m1,m2,m3,m4⟩:=iE (hc ρ[k])
   have g0:(Option.map hA ρ[0]?).getD AV.any = .agg c0:=by rw [List.getElem?_eq_getElem (by omega)]; exact k1
   have gk:(Option.map hA ρ[k]?).getD AV.any = .agg ck:=by rw [List.getElem?_eq_getElem (by omega)]; exact m1
   have hgd:=lu (hc ρ[k]) (nf (hrz _ (List.getElem_mem _)))
   rw [oy] at hgd
   change aa _ _ _ (HR.av (hc ρ[k])) at hgd
   rw [m1] at hgd
   have lA:((bk j v).map hA).length=j:=by rw [List.length_map,fZ]
   have lC:((bm j v).map hA).length=j:=by rw [List.length_map,f_]
   have b1:=(w9 (z:=hZ) (A:=(bk j v).map hA) (C:=(bm j v).map hA) (n:=i) (i:=j) lA h).trans z1
   have b2:=fun x=>(w_ (z:=hZ) (x:=x) (A:=(bk j v).map hA) (C:=(bm j v).map hA) (n:=i) (i:=j) (k:=k) lA hk).trans z1
   have b3:=xd (z:=hZ) (x := .agg c0) (y := .agg ck) (A:=(bk j v).map hA) (C:=(bm j v).map hA) (n:=i) (i:=j) (k:=k) lA hk
   have bl:=xb (z:=hZ) (A:=(bk j v).map hA) (C:=(bm j v).map hA) (n:=i) (i:=j) lA lC (by omega)
   have b4:((bk j v).map hA)++[.agg c0]=(bk (j+1) v).map hA:=by
    rw [cL1,List.map_append,←k1]
    cases ρ with
    | nil=>simp at hρk
    | cons a r=>rfl
   have b5 : .agg ck::((bm j v).map hA)=(bm (j+1) v).map hA:=by
    rw [cR1,List.map_cons,←m1]
    have:ρ.getLastD hQ0=ρ[k]:=by
     rw [List.getLastD_eq_getLast?,List.getLast?_eq_getElem?,show ρ.length-1=k by omega,List.getElem?_eq_getElem (by omega)]; rfl
    rw [this]; rfl
   rw [b4,b5] at b3
   generalize hBj:fV hZ ((bk j v).map hA) ((bm j v).map hA) i j=Bj at *
   generalize hBj1:fV hZ ((bk (j+1) v).map hA) ((bm (j+1) v).map hA) i (j+1)=Bj1 at *
   have e2:(0:Int)≤(k:Nat):=by omega
   simp -implicitDefEqProofs [go_sem,←hρ,e1,g0,gk,k2,k3,m2,m3]
   refine ⟨by omega,by omega,aO _ hgd (by simp [go_sem,m4]) ?_⟩
   simp -implicitDefEqProofs [go_sem,←hρ,e1,g0,gk,k2,k3,m2,m3,b1,b2,b3,bl,z2,z3]
   refine ⟨h,by omega,by omega,by omega,?_⟩
   change go _ _ _ _ _ _ (ap (dB 45 (ap (ap (ap (ap (hp 29 []) 9 (BS.live 9 Bj)) 0 (BS.live 9 (List.map hA ρ))) 9 (BS.live 9 (Bj.set j (AV.agg c0)))) 9 (BS.live 9 Bj1))) 45 (BS.live 9 (List.replicate k hZ))) 46
   rw [og hZ k]
   obtain ⟨M,hM⟩:∃M,M=(jF ρ).map hA:=⟨_,rfl⟩
   have hMl:M.length=k:=by rw [hM,List.length_map,e_]; omega
   have hMr:roL M:=by rw [hM]; exact dA _
   have hMt:∀q,roL (jz hZ (M.take q) k):=fun q=>je qH (cd hMr)
   refine aj 59 (α:={q:Nat // q≤k}) (fun q=>[(0,hL l),(2,.own 9 9 0 i),(3,.own 9 9 i i),(5,.own 9 0 0 ρ.length),(11,.own 9 45 0 k),(47,.int .i64 i),(48,.int .i64 j),(71,.int .i64 k),(72,.int .i64 q.1)]) (fun q=>[(0,.live 9 (ρ.map hA)),(9,.live 9 Bj1),(45,.live 9 (jz hZ (M.take q.1) k))]) (fun q=>k-q.1) ⟨0,by omega⟩ [] (by simp) (fun _ _ _ _ h=>h) (by omega) (by simp -implicitDefEqProofs [go_sem,hL]) (by simp -implicitDefEqProofs [go_sem]; exact ⟨(renL_ro _ _ hB1).symm,cloL_ro _ hB1⟩) fun ⟨q,hq⟩=>?_
   simp -implicitDefEqProofs [go_sem,hL]
   refine ⟨fun h5=>?_,fun h5=>?_⟩
   ·obtain ⟨ca,x1,x2,x3,x4⟩:=iE (hc ρ[q])
    obtain ⟨cb,y1,y2,y3,y4⟩:=iE (hc ρ[q+1])
    obtain ⟨cm,w1,w2,w3,w4⟩:=iE (hc (ρ[q].mid ρ[q+1]))
    have ga:(Option.map hA ρ[q]?).getD AV.any = .agg ca:=by rw [List.getElem?_eq_getElem (by omega)]; exact x1
    have gb:(Option.map hA ρ[q+1]?).getD AV.any = .agg cb:=by rw [List.getElem?_eq_getElem (by omega)]; exact y1
    have hmd:=jX (hc ρ[q]) (hc ρ[q+1]) (nf (hrz _ (List.getElem_mem _))) (nf (hrz _ (List.getElem_mem _)))
    rw [oy,oy] at hmd
    change aa _ _ _ (HR.av (hc (ρ[q].mid ρ[q+1]))) at hmd
    rw [x1,y1,w1] at hmd
    have e3:=wS q (by omega)
    obtain ⟨q1,hq1⟩:∃x,x=q+1:=⟨_,rfl⟩
    rw [←hq1] at e3 gb
    have htl:(M.take q).length=q:=by rw [List.length_take]; omega
    have hat:=(rO (z:=hZ) (a:=M.take q) (n:=k) (i:=q) (by omega) (by omega)).trans z1
    have hst:=oh (z:=hZ) (a:=M.take q) (n:=k) (.agg cm) (by omega)
    have hsucc:M.take q++[.agg cm]=M.take q1:=by
     rw [hq1,List.take_succ_eq_append_getElem (by omega),←w1]; subst hM
     simp only [List.getElem_map,lJ ρ q (by omega)]; rfl
    rw [htl,hsucc] at hst
    have hfl:=dI (z:=hZ) (a:=M.take q) (n:=k) (by omega)
    have r0:=renL_ro (nm []) _ (hMt q1)
    have r1:=cloL_ro (n:=59) _ (hMt q1)
    have r2:=renL_ro (nm []) _ hB1
    have r3:=cloL_ro (n:=59) _ hB1
    have u1:q1≤k:=by omega
    have u2:q<k+1:=by omega
    have u3:q1<k+1:=by omega
    simp -implicitDefEqProofs [go_sem,e3,ga,gb,x2,x3,y2,y3]
    refine ⟨by omega,by omega,aO _ hmd (by simp [go_sem,x4,y4]) ?_⟩
    simp -implicitDefEqProofs [go_sem,e3,ga,gb,w2,w3,hat,hst,hfl,z2,z3]
    refine ⟨by omega,ac ⟨q1,u1⟩ (by simp only; omega) [] (by simp) (fun _ _ _ _ h=>h) (by omega) (by simp -implicitDefEqProofs [go_sem,hL]) (by simp -implicitDefEqProofs [go_sem]; exact ⟨⟨r2.symm,r3⟩,r0.symm,r1⟩)⟩
   ·have hqk:q=k:=by omega
    subst hqk
    have hff2:jz hZ (M.take q) q=M:=by rw [List.take_of_length_le (by omega)]; exact k_ hMl
    have es:=wS j (by omega)
    obtain ⟨j1,hj1⟩:∃x,x=j+1:=⟨_,rfl⟩
    rw [←hj1] at es rN1 hBj1
    rw [hff2,es]
    have l1:(ed j1 v).length=q:=by rw [rN1,e_]; omega
    refine ac ⟨j1,by omega⟩ (by simp only; omega) [(0,45)] (by simp) (by simp [go_sem]) (by omega) (by simp -implicitDefEqProofs [go_sem,hL,l1]) (by simp -implicitDefEqProofs [go_sem,rN1,←hM,hBj1]; exact ⟨⟨(renL_ro _ _ hMr).symm,cloL_ro _ hMr⟩,(renL_ro _ _ (by rw [hj1] at *; exact hB1)).symm,cloL_ro _ hB1⟩)
  ·have hji:j=i:=by omega
   subst hji
   have lA:((bk j v).map hA).length=j:=by rw [List.length_map,fZ]
   have lC:((bm j v).map hA).length=j:=by rw [List.length_map,f_]
   have hb:fV hZ ((bk j v).map hA) ((bm j v).map hA) j j=(bk j v).map hA++(bm j v).map hA:=by
    unfold fV; rw [k_ lA]; simp
   rw [hb,List.take_append_of_le_length (by omega),List.take_of_length_le (by omega),List.drop_append_of_le_length (by omega),List.drop_of_length_le (by omega),List.nil_append,List.take_of_length_le (by omega)]
   refine ⟨⟨rfl,rfl⟩,?_,?_⟩<;>simp [fZ,f_]
theorem yj {a b:Rat} (ha:0<a) (hb:0<b):0<aR a b:=by unfold aR eJ; grind
theorem qa:∀ {l:List HQ},(∀h∈l,0<h.w)→∀h∈jF l,0<h.w
 | [],_,h,hh=>by simp [jF] at hh
 | [_],_,h,hh=>by simp [jF] at hh
 | a::b::r,hl,h,hh=>by
  simp only [jF,List.mem_cons] at hh
  rcases hh with rfl|hh
  ·exact yj (hl a (by simp)) (hl b (by simp))
  ·exact qa (fun x hx=>hl x (by simp only [List.mem_cons] at hx ⊢; exact .inr hx)) h hh
theorem qN {l:List HQ} (hl:∀h∈l,0<h.w) (i:Nat):∀h∈ed i l,0<h.w:=by
 induction i with
 | zero=>exact hl
 | succ i ih=>exact qa ih
theorem eV {l:List HQ} (h:0<l.length):l.headD hQ0∈l:=by cases l with|nil=>simp at h|cons a r=>simp
theorem dO {l:List HQ} (h:0<l.length):l.getLastD hQ0∈l:=by
 have hne:l≠[]:=by intro h0; subst h0; simp at h
 rw [List.getLastD_eq_getLast?,List.getLast?_eq_some_getLast hne]; exact List.getLast_mem hne
theorem zK {l:List HQ} (k:Nat) (hk:k≤l.length):(∀h∈bk k l,∃i,i<k∧h∈ed i l)∧∀h∈bm k l,∃i,i<k∧h∈ed i l:=by
 induction k with
 | zero=>exact ⟨fun h hh=>by simp [bk] at hh,fun h hh=>by simp [bm] at hh⟩
 | succ k ih =>
  obtain ⟨h1,h2⟩:=ih (by omega)
  have hlen:0<(ed k l).length:=by rw [qM]; omega
  constructor
  ·intro h hh
   simp only [bk,List.mem_append,List.mem_singleton] at hh
   rcases hh with hh|rfl
   ·obtain ⟨i,hi,hm⟩:=h1 h hh; exact ⟨i,by omega,hm⟩
   ·exact ⟨k,by omega,eV hlen⟩
  ·intro h hh
   simp only [bm,List.mem_cons] at hh
   rcases hh with rfl|hh
   ·exact ⟨k,by omega,dO hlen⟩
   ·obtain ⟨i,hi,hm⟩:=h2 h hh; exact ⟨i,by omega,hm⟩
theorem xe {l:List HQ} (h:cn l):cn (bk l.length l)∧cn (bm l.length l):=by
 obtain ⟨h1,h2,h3⟩:=h
 obtain ⟨m1,m2⟩:=zK (l:=l) l.length (Nat.le_refl _)
 refine ⟨⟨fun x hx=>?_,by rw [fZ]; exact h2,by rw [fZ]; exact h3⟩,⟨fun x hx=>?_,by rw [f_]; exact h2,by rw [f_]; exact h3⟩⟩
 ·obtain ⟨i,_,hm⟩:=m1 x hx; exact qN h1 i x hm
 ·obtain ⟨i,_,hm⟩:=m2 x hx; exact qN h1 i x hm
@[go_sem] theorem oY (ls:List (List HQ)):roL (ls.map qL):=br tZ
@[go_sem] theorem H8 (rn:Nat→Nat) (l:List (List HQ)):renL rn (l.map qL)=l.map qL:=renL_ro rn _ (oY l)
@[go_sem] theorem Hk (n:Nat) (l:List (List HQ)):cloL n (l.map qL):=cloL_ro _ (oY l)
@[go_sem] theorem FC (f:Nat→BS) (l:List (List HQ)):fitsL f (l.map qL):=fitsL_ro f _ (oY l)
@[go_sem] theorem GT (f:Nat→BS) (l:List (List HQ)):viewL f (l.map qL)=l.map qL:=viewL_ro f _ (oY l)
theorem fJ (p:List HQ):(p.map hc).map HR.val=p:=by
 rw [List.map_map]
 conv=>rhs; rw [←List.map_id p]
 exact List.map_congr_left fun x _=>oy x
def fg (l:List PQ):List (PQ×PQ):=((List.range l.length).map fun i=>(l.getD i ⟨0,0⟩,l.getD ((i+1)%l.length) ⟨0,0⟩)).filter fun e=>decide (e.1.y≠e.2.y)
theorem ys {L:List AV} (h:∀a∈L,∃n:Int,a = .int .u64 n∧(Lit.int .u64 n).wf=true):∃p:List Nat,aN 18446744073709551616 p∧L=uA .u64 p:=by
 induction L with
 | nil=>exact ⟨[],by simp [aN],rfl⟩
 | cons a L ih =>
  obtain ⟨p,h1,rfl⟩:=ih fun x hx=>h x (by simp [hx])
  obtain ⟨n,rfl,hw⟩:=h a (by simp)
  simp only [Lit.wf,Bool.and_eq_true,decide_eq_true_eq] at hw
  have e1:IntKind.u64.min=0:=by decide
  have e2:IntKind.u64.max=18446744073709551615:=by decide
  rw [e1,e2] at hw
  refine ⟨n.toNat::p,fun x hx=>?_,?_⟩
  ·rcases List.mem_cons.1 hx with rfl|hx
   ·omega
   ·exact h1 x hx
  ·simp only [uA,List.map_cons]
   rw [show ((n.toNat:Nat):Int)=n by omega]
section
variable {H:Type} {enc:TypeId×Value→H} {w:World}
theorem tK:kx enc Tryz.prog w 23 fun l=>∃p,aN 18446744073709551616 p∧l=[nA p] :=
 (mL (R:=fun a=>∃n:Int,a = .int .u64 n∧(Lit.int .u64 n).wf=true) (fun l ⟨n,h1,h2⟩=>⟨_,h1,n,rfl,h2⟩) (e:=149) (by kernel_rfl) (by kernel_rfl) (AK (k := .u64) (by kernel_rfl))).mono fun l ⟨L,h1,h2,h3⟩=>by
  obtain ⟨p,hp,rfl⟩:=ys h3
  exact ⟨p,hp,h1⟩
theorem AM:kx enc Tryz.prog w 25 fun l=>∃s p,aN 18446744073709551616 p∧l=[.bool s,nA p] :=
 (kH (t0:=4) (t1:=23) (n0:=1) (n1:=1) (by kernel_rfl) (by kernel_rfl) (ql (by kernel_rfl)) tK).mono fun l ⟨l0,l1,h,⟨b,h0⟩,p,hp,h1⟩=>⟨b,p,hp,by rw [h,h0,h1]; rfl⟩
def RQ.Lm (z:RQ):Prop:=aN 18446744073709551616 z.p∧aN 18446744073709551616 z.q
def PR.Lm (c:PR):Prop:=c.x.Lm∧c.y.Lm
def RQ.cs (z:RQ):List AV:=[.bool z.neg,nA z.p,nA z.q]
theorem tL:kx enc Tryz.prog w 27 fun l=>∃z:RQ,z.Lm∧l=z.cs :=
 (kH (t0:=25) (t1:=23) (n0:=2) (n1:=1) (by kernel_rfl) (by kernel_rfl) AM tK).mono fun l ⟨l0,l1,h,⟨b,p,hp,h0⟩,q,hq,h1⟩=>⟨⟨b,p,q⟩,⟨hp,hq⟩,by rw [h,h0,h1]; rfl⟩
end
open Go.ChangeShapes Go.WideShapes Go.ChangeAt Go.RowKit
theorem Tryz.own:ownKnob Tryz.prog.godebug=none:=by kernel_rfl
theorem Tryz.laidOut:laidOutB Tryz.prog=true:=by kernel_rfl
theorem Tryz.underBool:Tryz.prog.underlying 4=some .bool:=by kernel_rfl
theorem vV {P:Program} {W:World} {r:Reach} {b:Nat} {t e:TypeId} {v:Value} (ht:P.underlying t=some (.slice e)) (h:Value.okWide P W r b t v):v.cells = #[v]:=by
 unfold Value.okWide at h
 rw [ht] at h
 cases v<;>first|rfl|(simp [Cell.okWide,Cell.ok,ht] at h; done)
theorem C7 {cx:Cx} {a:AV} {v:Value} (hc:v.cells = #[v]) (h:Rl cx [a] v.cells.toList):Rl cx [a] [v]:=by
 rw [hc] at h
 exact h
theorem I5 {H:Type} {enc:TypeId×Value→H} {g:FuncId} {fn:Func} {c:Code} {s:ChangeSpec} {t:TypeId} {a:AV} {W:World} {v0:Value} {d0:DataW H} {p0:List MemPlace}
 (hf:Tryz.prog.funcs[g]?=some fn) (hb:fn.body=some c) (hname:(fn.name == "runtime.NumGoroutine")=false) (hpar:fn.params = #[t]) (hres:fn.resultTypes = #[4]) (hvars:s.vars=[])
 (hfun:∀d:DataW H,s.fn H [d]={ results:=[.lit (.bool true)],args:=[d] })
 (hrd:Tryz.prog.readableRec t=true) (hsz:t<Tryz.prog.types.size)
 (hp:aa Tryz.prog g [a] (.bool true)) (hrl:∀cx:Cx,cx.w=W→(∀b,¬cx.F b)→Rl cx [a] [v0])
 (h0:DataW.Trod enc Tryz.prog W 0 (fun _=>true) true t v0 d0 p0) (hW:DataW.Whole enc Tryz.prog fn.params.toList s.vars false W [v0] [d0] [] p0) :
 Calls Tryz.prog g #[v0] W fun e W'=>∃v,e = .returned v∧s.post enc Tryz.prog fn false true false false W #[v0] v W':=by
 refine (aa.calls hf hb hname hp (vs:=[v0]) hrl).mono fun e W' ⟨v,he,hB,cx,hw,hr⟩=>?_
 subst he
 simp only [Rv] at hr
 subst hr
 have hlt:∀x∈p0,x.block<W.heap.size:=fun x hx=>by simpa using hW.lt x hx
 refine ⟨_,rfl,[d0],[],p0,[],p0,[],hW,?_,?_,?_,hB.frame _,fun h=>by cases h⟩
 ·rw [hres,List.append_nil,hfun]
  exact trodAll_mk1 (shut_bool Tryz.underBool true)
 ·rw [hpar,List.append_nil,hfun]
  simpa using trodAll_mk1 (Below.trod Tryz.laidOut hrd hsz h0 hB hlt)
 ·rw [hvars,List.append_nil,hfun]; rfl
section
variable {H:Type} {enc:TypeId×Value→H} {P:Program} {w:World}
end
section
variable {H:Type} {enc:TypeId×Value→H} {w:World}
def PR.co (c:PR):List AV:=c.x.cs++c.y.cs
theorem CU:kx enc Tryz.prog w 72 fun l=>∃c:PR,c.Lm∧l=c.co :=
 (kH (t0:=27) (t1:=27) (n0:=3) (n1:=3) (by kernel_rfl) (by kernel_rfl) tL tL).mono fun l ⟨l0,l1,h,⟨x,hx,h0⟩,y,hy,h1⟩=>⟨⟨x,y⟩,⟨hx,hy⟩,by rw [h,h0,h1]; rfl⟩
end
theorem GB (x y:Rat) (hx:sz x≤17179869184) (hy:sz y≤17179869184) (h0:y≠0):aa Tryz.prog 130 [rA x,rA y] (.tup [rA (x / y),.int .i64 0]):=by
 have h:=gX (qc x) (qc y) (dZ hx) (dZ hy)
 rw [bD,bD,if_neg h0] at h; exact h
theorem Da (x:Rat) (hx:sz x≤17179869184):aa Tryz.prog 34 [rA x] (.int .i64 (dC x)):=by
 have h:=cK (qc x) (dZ hx).ok
 rw [bD] at h; exact h
theorem yN (x y:Rat) (hx:sz x≤17179869184) (hy:sz y≤17179869184):aa Tryz.prog 31 [rA x,rA y] (.int .i64 (c9 x y)):=by
 have h:=gV (qc x) (qc y) (dZ hx) (dZ hy)
 rw [bD,bD] at h; exact h
def rC (x:Rat):List AV:=[.bool (qc x).neg,nA (qc x).p,nA (qc x).q]
theorem d_ (x:Rat):rA x = .agg (rC x):=rfl
@[go_sem] theorem Jh (x:Rat):(rC x).length=3:=rfl
@[go_sem] theorem HY (x:Rat):(rC x).take 3=rC x:=rfl
@[go_sem] theorem HX (x:Rat):(rC x).drop 3=[]:=rfl
@[go_sem] theorem is (x:Rat):roL (rC x):=by unfold rC; simp -implicitDefEqProofs [go_sem]
@[go_sem] theorem IP (n:Nat) (x:Rat):cloL n (rC x):=cloL_ro _ (is x)
@[go_sem] theorem Jn (rn:Nat→Nat) (x:Rat):renL rn (rC x)=rC x:=renL_ro rn _ (is x)
@[go_sem] theorem Hv (f:Nat→BS) (x:Rat):fitsL f (rC x):=fitsL_ro f _ (is x)
@[go_sem] theorem Ir (f:Nat→BS) (x:Rat):viewL f (rC x)=rC x:=viewL_ro f _ (is x)
def pC (p:PQ):List AV:=[.bool (qc p.x).neg,nA (qc p.x).p,nA (qc p.x).q,.bool (qc p.y).neg,nA (qc p.y).p,nA (qc p.y).q]
theorem bS (p:PQ):pA p = .agg (pC p):=rfl
@[go_sem] theorem Jg (p:PQ):(pC p).length=6:=rfl
@[go_sem] theorem HW (p:PQ):(pC p).take 6=pC p:=rfl
@[go_sem] theorem HV (p:PQ):(pC p).drop 6=[]:=rfl
@[go_sem] theorem Gs (p:PQ):(pC p).take 3=rC p.x:=rfl
@[go_sem] theorem Gr (p:PQ):(pC p).drop 3=rC p.y:=rfl
@[go_sem] theorem fh (p:PQ):roL (pC p):=by unfold pC; simp -implicitDefEqProofs [go_sem]
@[go_sem] theorem IM (n:Nat) (p:PQ):cloL n (pC p):=cloL_ro _ (fh p)
@[go_sem] theorem Jl (rn:Nat→Nat) (p:PQ):renL rn (pC p)=pC p:=renL_ro rn _ (fh p)
@[go_sem] theorem Hu (f:Nat→BS) (p:PQ):fitsL f (pC p):=fitsL_ro f _ (fh p)
@[go_sem] theorem Iq (f:Nat→BS) (p:PQ):viewL f (pC p)=pC p:=viewL_ro f _ (fh p)
theorem Gu (p q:PQ) (hp:p.sz≤17179869184) (hq:q.sz≤17179869184):aa Tryz.prog 97 [pA p,pA q] (pA (p.add q)):=by
 have h:=gT (pc p) (pc q) (bH hp) (bH hq)
 rw [a9,a9] at h; exact h
theorem Gx (p q:PQ) (hp:p.sz≤17179869184) (hq:q.sz≤17179869184):aa Tryz.prog 125 [pA p,pA q] (pA (p.sub q)):=by
 have h:=dQ (pc p) (pc q) (bH hp) (bH hq)
 rw [a9,a9] at h; exact h
theorem AQ (p:PQ) (k:Rat) (hp:p.sz≤17179869184) (hk:sz k≤17179869184):aa Tryz.prog 124 [pA p,rA k] (pA (p.scale k)):=by
 have h:=er (pc p) (qc k) (bH hp) (ew hk)
 rw [a9,bD] at h; exact h
theorem Gw (p q:PQ) (t:Rat) (hp:p.sz≤1073741824) (hq:q.sz≤1073741824) (ht:sz t≤1073741824):aa Tryz.prog 55 [pA p,pA q,rA t] (pA (p.mix q t)):=by
 have h:=vO (pc p) (pc q) (qc t) (bH hp) (bH hq) (ew ht)
 rw [a9,a9,bD] at h; exact h
theorem yK (a b c:PQ) (ha:a.sz≤1073741824) (hb:b.sz≤1073741824) (hc:c.sz≤1073741824):aa Tryz.prog 127 [pA a,pA b,pA c] (.int .i64 (PQ.orient a b c)):=by
 have h:=oT (pc a) (pc b) (pc c) (bH ha) (bH hb) (bH hc)
 rw [a9,a9,a9] at h; exact h
def pL (l:List PQ):AV := .sl 6 false (l.map pA)
@[go_sem] theorem cU (l:List PQ):roL (l.map pA):=br gy
theorem l5 (l:List PQ):ro (pL l):=by unfold pL; simp only [ro]; exact cU l
@[go_sem] theorem H7 (rn:Nat→Nat) (l:List PQ):renL rn (l.map pA)=l.map pA:=renL_ro rn _ (cU l)
@[go_sem] theorem Hj (n:Nat) (l:List PQ):cloL n (l.map pA):=cloL_ro _ (cU l)
@[go_sem] theorem FB (f:Nat→BS) (l:List PQ):fitsL f (l.map pA):=fitsL_ro f _ (cU l)
@[go_sem] theorem GS (f:Nat→BS) (l:List PQ):viewL f (l.map pA)=l.map pA:=viewL_ro f _ (cU l)
theorem kD {l:List PQ} {i:Nat} (h:i<l.length):aV (l.map pA) (i:Int) = .agg (pC l[i]):=by
 simp [aV,List.getD_eq_getElem?_getD,h,bS]
theorem qw (p:PQ) (h:p.sz<1099511627776):aa Tryz.prog 80 [pA p,pA p] (.bool true):=by
 have:=p.sz_x; have:=p.sz_y
 have h1:=nE p.x (by omega)
 have h2:=nE p.y (by omega)
 refine Pg Tryz.func80 rfl [.tmp 4] rfl (by simp -implicitDefEqProofs [go_sem]) ?_
 rw [bS]
 rw [d_] at h1 h2
 simp -implicitDefEqProofs [go_sem]
 refine ab h1 ?_
 simp -implicitDefEqProofs [go_sem]
 refine ab h2 ?_
 simp -implicitDefEqProofs [go_sem]
theorem iL (p:PQ) (h:p.sz≤17179869184):aa Tryz.prog 33 [pA p,pA p] (.bool true):=by
 have:=eo p p h h
 rwa [decide_eq_true rfl] at this
mutual
def IT (g:Nat) (l:List AV):AV→AV
 | .own sz id off len=>if id=g∧off+len≤l.length then .sl sz false ((l.drop off).take len) else .own sz id off len
 | .agg cs => .agg (frnL g l cs)
 | a=>a
def frnL (g:Nat) (l:List AV):List AV→List AV
 | []=>[]
 | a::r=>IT g l a::frnL g l r
end
def IU (g:Nat) (l:List AV) (j:Nat) (b:BS):BS:=if j=g then .dead else match b with
 | .live sz m => .live sz (m.map (IT g l))
 | b=>b
attribute [go_sem] IT frnL IU
open Go Go.Proofs
set_option linter.unusedSimpArgs false
set_option linter.unusedVariables false
set_option maxRecDepth 20000
@[go_sem] theorem Iz (x y:Rat):rC x++(rC y++List.drop 6 (rC x++[AV.bool false,AV.sl 0 true [],AV.sl 0 true []]))=pC ⟨x,y⟩:=rfl
def fC (x:Rat):List AV:=[.bool (decide (x.num<0)),qA x.num.natAbs,qA x.den]
theorem xq (x:Rat):fA x = .agg (fC x):=rfl
@[go_sem] theorem IS (x:Rat):(fC x).length=3:=rfl
@[go_sem] theorem Hq (x:Rat):(fC x).take 3=fC x:=rfl
@[go_sem] theorem Hp (x:Rat):(fC x).drop 3=[]:=rfl
@[go_sem] theorem tX (x:Rat):roL (fC x):=by have:=tW x; rw [xq] at this; simpa only [ro] using this
@[go_sem] theorem IK (n:Nat) (x:Rat):cloL n (fC x):=cloL_ro _ (tX x)
@[go_sem] theorem Jj (rn:Nat→Nat) (x:Rat):renL rn (fC x)=fC x:=renL_ro rn _ (tX x)
@[go_sem] theorem Hs (f:Nat→BS) (x:Rat):fitsL f (fC x):=fitsL_ro f _ (tX x)
@[go_sem] theorem Io (f:Nat→BS) (x:Rat):viewL f (fC x)=fC x:=viewL_ro f _ (tX x)
def eC (p:PQ):List AV:=[.bool (decide (p.x.num<0)),qA p.x.num.natAbs,qA p.x.den,.bool (decide (p.y.num<0)),qA p.y.num.natAbs,qA p.y.den]
theorem mV (p:PQ):eA p = .agg (eC p):=rfl
@[go_sem] theorem IR (p:PQ):(eC p).length=6:=rfl
@[go_sem] theorem Ho (p:PQ):(eC p).take 6=eC p:=rfl
@[go_sem] theorem Hn (p:PQ):(eC p).drop 6=[]:=rfl
@[go_sem] theorem Fu (p:PQ):(eC p).take 3=fC p.x:=rfl
@[go_sem] theorem Ft (p:PQ):(eC p).drop 3=fC p.y:=rfl
@[go_sem] theorem tU (p:PQ):roL (eC p):=by have:=yX p; rw [mV] at this; simpa only [ro] using this
@[go_sem] theorem IJ (n:Nat) (p:PQ):cloL n (eC p):=cloL_ro _ (tU p)
@[go_sem] theorem Ji (rn:Nat→Nat) (p:PQ):renL rn (eC p)=eC p:=renL_ro rn _ (tU p)
@[go_sem] theorem Hr (f:Nat→BS) (p:PQ):fitsL f (eC p):=fitsL_ro f _ (tU p)
@[go_sem] theorem Im (f:Nat→BS) (p:PQ):viewL f (eC p)=eC p:=viewL_ro f _ (tU p)
@[go_sem] theorem G9 (x y:Rat):fC x++(fC y++List.drop 6 (fC x++[AV.bool false,AV.sl 0 true [],AV.sl 0 true []]))=eC ⟨x,y⟩:=rfl
def eL (l:List PQ):AV := .sl 6 false (l.map eA)
@[go_sem] theorem dv (l:List PQ):roL (l.map eA):=br yX
theorem GD (l:List PQ):ro (eL l):=by unfold eL; simp only [ro]; exact dv l
@[go_sem] theorem HZ (rn:Nat→Nat) (l:List PQ):renL rn (l.map eA)=l.map eA:=renL_ro rn _ (dv l)
@[go_sem] theorem Hd (n:Nat) (l:List PQ):cloL n (l.map eA):=cloL_ro _ (dv l)
@[go_sem] theorem Fx (f:Nat→BS) (l:List PQ):fitsL f (l.map eA):=fitsL_ro f _ (dv l)
@[go_sem] theorem GO (f:Nat→BS) (l:List PQ):viewL f (l.map eA)=l.map eA:=viewL_ro f _ (dv l)
theorem zS {l:List PQ} {i:Nat} (h:i<l.length):aV (l.map eA) (i:Int) = .agg (eC l[i]):=by
 simp [aV,List.getD_eq_getElem?_getD,h,mV]
theorem s4 (p:PQ) {n:Nat} (h:p.sz≤n):sz p.x≤n∧sz p.y≤n:=⟨Nat.le_trans p.sz_x h,Nat.le_trans p.sz_y h⟩
theorem xn (p:PR) (hp:p.In 17179869184):aa Tryz.prog 101 [p.av] (eA p.val):=by
 have k1:=hp.x.sz; have k2:=hp.y.sz
 have finr:∀z:RQ,z.In 17179869184→aa Tryz.prog 19 [z.av] (fA z.val):=fun z hz=>pN z hz.sm.ok (by
  have:nl z.num.natAbs≤z.p.length:=by unfold RQ.num; rw [bX]; exact jY hz.limp
  have:=hz.lp; omega) (by
  have:nl z.den≤max 1 z.q.length:=by
   unfold RQ.den; split
   ·rw [fK]; omega
   ·have:=jY hz.limq; omega
  have:=hz.lq; omega)
 have h1:=finr p.x hp.x
 have h2:=finr p.y hp.y
 refine Pg Tryz.func101 rfl [.cell 2 118] rfl (yX _) ?_
 unfold PR.av RQ.av PR.val at *
 simp only [mV,xq] at *
 generalize p.x.val=vx at *
 generalize p.y.val=vy at *
 simp -implicitDefEqProofs [go_sem]
 refine ag h1 ?_
 simp -implicitDefEqProofs [go_sem]
 refine ag h2 ?_
 simp -implicitDefEqProofs [go_sem,aK]
def RQ.sml (z:RQ) (m:Nat):Prop:=z.p.length≤m∧z.q.length≤m
instance (z:RQ) (m:Nat):Decidable (z.sml m):=inferInstanceAs (Decidable (_∧_))
theorem o7 (c:PR) (m:Nat):aa Tryz.prog 79 [c.av,.int .i64 m] (.bool (decide (c.x.sml m∧c.y.sml m))):=by
 have h1:=uc c.x m
 have h2:=uc c.y m
 change aa _ _ _ (.bool (decide (c.x.sml m))) at h1
 change aa _ _ _ (.bool (decide (c.y.sml m))) at h2
 refine Pg Tryz.func79 rfl [.tmp 4] rfl (by simp -implicitDefEqProofs [go_sem]) ?_
 unfold PR.av RQ.av at *
 simp -implicitDefEqProofs [go_sem]
 refine ab h1 ?_
 by_cases a1:c.x.sml m
 ·simp -implicitDefEqProofs [go_sem,a1]
  refine ab h2 ?_
  by_cases a2:c.y.sml m
  ·simp -implicitDefEqProofs [go_sem,a2]
  ·simp -implicitDefEqProofs [go_sem,a2]
 ·simp -implicitDefEqProofs [go_sem,a1]
theorem finr (z:RQ) (hz:z.In 17179869184):aa Tryz.prog 19 [z.av] (fA z.val):=pN z hz.sm.ok (by
 have:nl z.num.natAbs≤z.p.length:=by unfold RQ.num; rw [bX]; exact jY hz.limp
 have:=hz.lp; omega) (by
 have:nl z.den≤max 1 z.q.length:=by
  unfold RQ.den; split
  ·rw [fK]; omega
  ·have:=jY hz.limq; omega
 have:=hz.lq; omega)
theorem zk {z:RQ} {m:Nat} (h:z.sml m) (hl:z.Lm):z.In m:=⟨h.1,hl.1,h.2,hl.2⟩
def BT (c:PR) (h tol:RQ):Prop:=(c.x.sml 1∧c.y.sml 1)∧h.sml 1∧tol.sml 1∧(h.val≤0∨tol.val≤0∨h.val≤tol.val*400)
instance (c:PR) (h tol:RQ):Decidable (BT c h tol):=inferInstanceAs (Decidable (_∧_))
def gA (h:HQ):AV := .agg [.bool (decide (h.x.num<0)),qA h.x.num.natAbs,qA h.x.den,.bool (decide (h.y.num<0)),qA h.y.num.natAbs,qA h.y.den,.bool (decide (h.w.num<0)),qA h.w.num.natAbs,qA h.w.den]
theorem BD (h:HQ):ro (gA h):=by unfold gA qA; simp -implicitDefEqProofs [go_sem]
def gL (l:List HQ):AV := .sl 9 false (l.map gA)
@[go_sem] theorem lW (l:List HQ):roL (l.map gA):=br BD
theorem GE (l:List HQ):ro (gL l):=by unfold gL; simp only [ro]; exact lW l
@[go_sem] theorem H4 (rn:Nat→Nat) (l:List HQ):renL rn (l.map gA)=l.map gA:=renL_ro rn _ (lW l)
@[go_sem] theorem Hg (n:Nat) (l:List HQ):cloL n (l.map gA):=cloL_ro _ (lW l)
@[go_sem] theorem Fy (f:Nat→BS) (l:List HQ):fitsL f (l.map gA):=fitsL_ro f _ (lW l)
@[go_sem] theorem GP (f:Nat→BS) (l:List HQ):viewL f (l.map gA)=l.map gA:=viewL_ro f _ (lW l)
def aG (a b t:Rat):Rat:=a*(1-t)+b*t
def HQ.mixT (a b:HQ) (t:Rat):HQ:=⟨aG a.x b.x t,aG a.y b.y t,aG a.w b.w t⟩
theorem jQ (h:HR) (hs:h.In 17179869184) (h0:h.w.val≠0):aa Tryz.prog 262 [h.av] (.tup [pA ⟨h.x.val / h.w.val,h.y.val / h.w.val⟩,.int .i64 0]):=by
 have h1:=gX h.x h.w hs.x.sm hs.w.sm
 have h2:=gX h.y h.w hs.y.sm hs.w.sm
 rw [if_neg h0] at h1 h2
 unfold pA pc PR.av
 simp only
 generalize h.x.val / h.w.val=r1 at *
 generalize h.y.val / h.w.val=r2 at *
 refine Pg Tryz.func262 rfl [.cell 2 72,.tmp 3] rfl (by simp -implicitDefEqProofs [go_sem]) ?_
 unfold HR.av rA RQ.av at *
 generalize qc r1=c1 at *
 generalize qc r2=c2 at *
 simp -implicitDefEqProofs [go_sem]
 refine ab h1 ?_
 simp -implicitDefEqProofs [go_sem]
 refine ab h2 ?_
 simp -implicitDefEqProofs [go_sem,aK]
def HR.cs (h:HR):List AV:=[.bool h.x.neg,nA h.x.p,nA h.x.q,.bool h.y.neg,nA h.y.p,nA h.y.q,.bool h.w.neg,nA h.w.p,nA h.w.q]
theorem HR.av_cs (h:HR):h.av = .agg h.cs:=rfl
theorem HR.cs_len (h:HR):h.cs.length=9:=rfl
theorem HR.cs_take (h:HR):h.cs.take 9=h.cs:=rfl
theorem HR.cs_drop (h:HR):h.cs.drop 9=[]:=rfl
@[go_sem] theorem HR.ro_cs (h:HR):roL h.cs:=by have:=lZ h; rw [HR.av_cs] at this; simpa only [ro] using this
@[go_sem] theorem HR.clo_cs (n:Nat) (h:HR):cloL n h.cs:=cloL_ro _ h.ro_cs
@[go_sem] theorem HR.ren_cs (rn:Nat→Nat) (h:HR):renL rn h.cs=h.cs:=renL_ro rn _ h.ro_cs
attribute [go_sem] HR.cs_len HR.cs_take HR.cs_drop
theorem tj {l:List HR} {i:Nat} (h:i<l.length):aV (l.map HR.av) (i:Int) = .agg (l[i]).cs:=kC h
theorem xD {l:List HR} (h:0<l.length):aV (l.map HR.av) 0 = .agg (l[0]).cs:=kC (i:=0) h
@[go_sem] theorem GJ (sz:Nat) (a:AV) (l:List AV):slv sz (a::l) = .sl sz false (a::l):=rfl
def HQ.P (h:HQ):PQ:=⟨h.x / h.w,h.y / h.w⟩
theorem HQ.ext {a b:HQ} (h1:a.x=b.x) (h2:a.y=b.y) (h3:a.w=b.w):a=b:=by cases a; cases b; simp_all
theorem Br {α:Type} {l:List α} (h:l.length=2):∃a b,l=[a,b]:=by
 match l,h with
 | [a,b],_=>exact ⟨a,b,rfl⟩
theorem Bs {α:Type} {l:List α} (h:l.length=3):∃a b c,l=[a,b,c]:=by
 match l,h with
 | [a,b,c],_=>exact ⟨a,b,c,rfl⟩
theorem Bt {α:Type} {l:List α} (h:l.length=4):∃a b c d,l=[a,b,c,d]:=by
 match l,h with
 | [a,b,c,d],_=>exact ⟨a,b,c,d,rfl⟩
theorem Kh (a b c:HQ):bk 3 [a,b,c]=[a,a.mid b,(a.mid b).mid (b.mid c)]:=rfl
theorem Kj (a b c:HQ):bm 3 [a,b,c]=[(a.mid b).mid (b.mid c),b.mid c,c]:=rfl
theorem Ki (a b c d:HQ):bk 4 [a,b,c,d]=[a,a.mid b,(a.mid b).mid (b.mid c),((a.mid b).mid (b.mid c)).mid ((b.mid c).mid (c.mid d))]:=rfl
theorem Kk (a b c d:HQ):bm 4 [a,b,c,d]=[((a.mid b).mid (b.mid c)).mid ((b.mid c).mid (c.mid d)),(b.mid c).mid (c.mid d),c.mid d,d]:=rfl
theorem hl2 (t a b:Rat):aG a (aR a b) t=aG a b (t / 2):=by unfold aG aR eJ; grind
theorem hr2 (t a b:Rat):aG (aR a b) b t=aG a b ((1+t) / 2):=by unfold aG aR eJ; grind
theorem JF (t a b c:Rat):aG (aG a (aR a b) t) (aG (aR a b) (aR (aR a b) (aR b c)) t) t=aG (aG a b (t / 2)) (aG b c (t / 2)) (t / 2):=by
 unfold aG aR eJ; grind
theorem hr3 (t a b c:Rat):aG (aG (aR (aR a b) (aR b c)) (aR b c) t) (aG (aR b c) c t) t=aG (aG a b ((1+t) / 2)) (aG b c ((1+t) / 2)) ((1+t) / 2):=by
 unfold aG aR eJ; grind
theorem hr4 (t a b c d:Rat):aG (aG (aG (aR (aR (aR a b) (aR b c)) (aR (aR b c) (aR c d))) (aR (aR b c) (aR c d)) t) (aG (aR (aR b c) (aR c d)) (aR c d) t) t) (aG (aG (aR (aR b c) (aR c d)) (aR c d) t) (aG (aR c d) d t) t) t =
 aG (aG (aG a b ((1+t) / 2)) (aG b c ((1+t) / 2)) ((1+t) / 2)) (aG (aG b c ((1+t) / 2)) (aG c d ((1+t) / 2)) ((1+t) / 2)) ((1+t) / 2):=by
 unfold aG aR eJ; grind
theorem yn {a b t:Rat} (ha:0<a) (hb:0<b) (h0:0≤t) (h1:t≤1):0<aG a b t:=by
 unfold aG
 rcases Rat.le_iff_lt_or_eq.1 h0 with h|h
 ·have h2:0<b*t:=Rat.mul_pos hb h
  have h3:0≤a*(1-t):=Rat.mul_nonneg (Rat.le_of_lt ha) (by grind)
  grind
 ·subst h; grind
theorem HQ.sz_P (h:HQ):h.P.sz≤2*h.sz:=by
 have:=h.sz_x; have:=h.sz_y; have:=h.sz_w
 have:=o_ h.x h.w; have:=o_ h.y h.w
 unfold HQ.P PQ.sz
 simp only
 omega
def pq (p a b:PQ):Rat :=
 if (b.sub a).dot (b.sub a)=0 then p.far a
 else if (p.sub a).dot (b.sub a) / (b.sub a).dot (b.sub a)<0 then p.far a
 else if 1<(p.sub a).dot (b.sub a) / (b.sub a).dot (b.sub a) then p.far b
 else p.far (a.mix b ((p.sub a).dot (b.sub a) / (b.sub a).dot (b.sub a)))
theorem n_ (p a b:PQ) (s:Rat):p.far (a.mix b s)=p.far a-2*s*(p.sub a).dot (b.sub a)+s*s*(b.sub a).dot (b.sub a):=by
 unfold PQ.far PQ.mix PQ.dot PQ.sub PQ.add PQ.scale; simp only; grind
theorem oG (a b:PQ):a.mix b 1=b:=by
 unfold PQ.mix PQ.sub PQ.add PQ.scale
 exact PQ.ext (by simp only; grind) (by simp only; grind)
theorem lK (a b:PQ):a.mix b 0=a:=by
 unfold PQ.mix PQ.sub PQ.add PQ.scale
 exact PQ.ext (by simp only; grind) (by simp only; grind)
theorem PQ.dot0 {d:PQ} (h:d.dot d=0):d.x=0∧d.y=0:=by
 unfold PQ.dot at h
 have h1:=j4 d.x; have h2:=j4 d.y
 have e1:d.x*d.x=0:=by grind
 have e2:d.y*d.y=0:=by grind
 exact ⟨by rcases Rat.mul_eq_zero.1 e1 with h|h<;>exact h,by rcases Rat.mul_eq_zero.1 e2 with h|h<;>exact h⟩
theorem Dp (p a b:PQ):∃s,0≤s∧s≤1∧pq p a b=p.far (a.mix b s):=by
 unfold pq
 split
 ·exact ⟨0,by grind,by grind,by rw [lK]⟩
 ·split
  ·exact ⟨0,by grind,by grind,by rw [lK]⟩
  ·split
   ·exact ⟨1,by grind,by grind,by rw [oG]⟩
   ·exact ⟨_,by grind,by grind,rfl⟩
theorem Dq (p a b : PQ) {s : Rat} (h0 : 0 ≤ s) (h1 : s ≤ 1) : pq p a b ≤ p.far (a.mix b s) := by
  have hD : 0 ≤ (b.sub a).dot (b.sub a) := by
    have h1 := j4 (b.sub a).x; have h2 := j4 (b.sub a).y
    unfold PQ.dot; grind
  rw [n_ p a b s]
  unfold pq
  split
  · rename_i h
    have := PQ.dot0 h
    have e : (p.sub a).dot (b.sub a) = 0 := by conv => lhs; unfold PQ.dot
                                               rw [this.1, this.2]; grind
    rw [h, e]; grind
  · rename_i hne
    have hp : 0 < (b.sub a).dot (b.sub a) := by grind
    have e : (p.sub a).dot (b.sub a) = ((p.sub a).dot (b.sub a) / (b.sub a).dot (b.sub a)) * (b.sub a).dot (b.sub a) := by grind
    split
    · rename_i h
      generalize (p.sub a).dot (b.sub a) / (b.sub a).dot (b.sub a) = t at *
      rw [e]
      generalize (b.sub a).dot (b.sub a) = D at *
      have := Rat.mul_nonneg (Rat.mul_nonneg h0 hD) (show 0 ≤ s - 2 * t by grind)
      grind
    · split
      · rename_i h
        have fb : p.far b = p.far a - 2 * 1 * (p.sub a).dot (b.sub a) + 1 * 1 * (b.sub a).dot (b.sub a) := by rw [← n_, oG]
        rw [fb]
        generalize (p.sub a).dot (b.sub a) / (b.sub a).dot (b.sub a) = t at *
        rw [e]
        generalize (b.sub a).dot (b.sub a) = D at *
        have := Rat.mul_nonneg (Rat.mul_nonneg (show 0 ≤ 1 - s by grind) hD) (show 0 ≤ 2 * t - s - 1 by grind)
        grind
      · rw [n_ p a b ((p.sub a).dot (b.sub a) / (b.sub a).dot (b.sub a))]
        generalize (p.sub a).dot (b.sub a) / (b.sub a).dot (b.sub a) = t at *
        rw [e]
        generalize (b.sub a).dot (b.sub a) = D at *
        have := Rat.mul_nonneg (j4 (s - t)) hD
        grind
theorem sz_far (p q:PQ) {n m:Nat} (hp:p.sz≤n) (hq:q.sz≤m):sz (p.far q)≤4*(n+m+1)+1:=by
 have:=PQ.sz_far p q; omega
theorem zo {p a b:PQ} {n:Nat} (hp:p.sz≤n) (ha:a.sz≤n) (hb:b.sz≤n):sz (pq p a b)≤80*n+60:=by
 have z1:=PQ.sz_sub b a
 have z2:=PQ.sz_sub p a
 have z3:=PQ.sz_dot (p.sub a) (b.sub a)
 have z4:=PQ.sz_dot (b.sub a) (b.sub a)
 have z5:=o_ ((p.sub a).dot (b.sub a)) ((b.sub a).dot (b.sub a))
 have z6:=PQ.sz_mix a b ((p.sub a).dot (b.sub a) / (b.sub a).dot (b.sub a))
 have z7:=PQ.sz_far p (a.mix b ((p.sub a).dot (b.sub a) / (b.sub a).dot (b.sub a)))
 have z8:=PQ.sz_far p a
 have z9:=PQ.sz_far p b
 unfold pq
 split
 ·omega
 ·split
  ·omega
  ·split<;>omega
theorem t_ {x:Rat}:0≤dC x↔0≤x:=by
 have := @kI x
 constructor
 ·intro h
  rcases (Rat.le_total:0≤x∨x≤0) with h1|h1
  ·exact h1
  ·have:¬x<0:=fun h2=>by have:=this.2 h2; omega
   grind
 ·intro h
  have:¬dC x<0:=fun h2=>by have:=this.1 h2; grind
  omega
theorem BB (p q:PQ) (hp:p.sz≤4294967296) (hq:q.sz≤4294967296):aa Tryz.prog 131 [pA p,pA q] (rA (p.dot q)):=by
 have h:=nB (pc p) (pc q) (bH hp) (bH hq)
 rw [a9,a9] at h; exact h
theorem rj (l:List PQ) (i:Nat) (hl:1≤l.length) (hl2:l.length≤1099511627776) (hi:i<l.length):aa Tryz.prog 128 [pL l,.int .i64 i] (.int .i64 ((i+1)%l.length:Nat)):=by
 refine Pg Tryz.func128 rfl [.tmp 4] rfl (by simp -implicitDefEqProofs [go_sem]) ?_
 have e1:=wT i (by omega)
 have e2:Int.tmod ((i:Int)+1) (l.length:Int)=((i:Int)+1)%(l.length:Int):=by rw [Int.tmod_eq_emod_of_nonneg (by omega)]
 have e3:¬l=[]:=fun h=>by subst h; simp at hl
 unfold pL
 simp -implicitDefEqProofs [go_sem,e1,e2,e3]
theorem vK (a b c:PQ):PQ.orient a b c≤1:=by
 unfold PQ.orient dC dM
 split<;>(try split)<;>omega
theorem pJ (l:List PQ) (hl:3≤l.length) (hl2:l.length≤1048576) (hs:∀p∈l,p.sz≤1073741824)
 (hne:∀i k (hi:i<l.length) (hk:k<l.length),k≠i→l[i]≠l[k])
 (ho:∀i k (hi:i<l.length) (hk:k<l.length),0≤PQ.orient l[i] (l[(i+1)%l.length]'(Nat.mod_lt _ (by omega))) l[k])
 (h1:0<PQ.orient (l[0]'(by omega)) (l[1]'(by omega)) (l[2]'(by omega))):aa Tryz.prog 60 [pL l] (.bool true):=by
 have hnx:=fun i hi=>rj l i (by omega) (by omega) hi
 have hlw:IntKind.i64.wrap (l.length:Int)=l.length:=bQ (by omega)
 have JF:¬(l.length:Int)<3:=by omega
 refine Pg Tryz.func60 rfl [.tmp 2] rfl (by simp -implicitDefEqProofs [go_sem]) ?_
 unfold pL at *
 simp -implicitDefEqProofs [go_sem,JF]
 refine aj 0 (α:={s:Nat×Int // s.1≤l.length∧0≤s.2∧s.2≤s.1*1048576∧(0<s.1→1≤s.2)}) (fun s=>[(0,.sl 6 false (l.map pA)),(3,.int .i64 s.1.2),(13,.sl 6 false (l.map pA)),(14,.int .i64 l.length),(15,.int .i64 s.1.1)])
  (fun s=>[]) (fun s=>l.length-s.1.1) ⟨(0,0),by simp⟩ [] (by simp) (fun _ _ _ _ h=>h) (by omega) (by simp -implicitDefEqProofs [go_sem,hlw]) (by simp -implicitDefEqProofs [go_sem]) fun ⟨⟨i,T⟩,hi,t0,t1,t2⟩=>?_
 simp only at hi t0 t1 t2
 simp -implicitDefEqProofs [go_sem]
 refine ⟨fun h5=>?_,fun h5=>?_⟩
 ·have es:=wS i (by omega)
  have hlt:(i+1)%l.length<l.length:=Nat.mod_lt _ (by omega)
  have e1:=kD (l:=l) (i:=i) h5
  have e2:=kD hlt
  have n1:=hnx i h5
  have hro:=fh l[i]
  have hrq:=fh l[(i+1)%l.length]
  have hor:∀k (hk:k<l.length),0≤PQ.orient l[i] (l[(i+1)%l.length]'hlt) l[k]:=fun k hk=>ho i k h5 hk
  have hcn:=fun k (hk:k<l.length)=>yK l[i] l[(i+1)%l.length] l[k] (hs _ (List.getElem_mem h5)) (hs _ (List.getElem_mem hlt)) (hs _ (List.getElem_mem hk))
  have hsm:=fun k (hk:k<l.length)=>eo l[i] l[k] (by have:=hs _ (List.getElem_mem h5); omega) (by have:=hs _ (List.getElem_mem hk); omega)
  have hn2:=fun k (hk:k<l.length)=>hne i k h5 hk
  have hi0:i=0→∀h2:2<l.length,0<PQ.orient l[i] l[(i+1)%l.length] l[2]:=fun hi0 h2=>by
   subst hi0
   have:(0+1)%l.length=1:=Nat.mod_eq_of_lt (by omega)
   simp only [this]
   exact h1
  simp only [bS] at hcn hsm
  generalize l[(i+1)%l.length]=q at *
  generalize l[i]=p at *
  generalize (i+1)%l.length=j at *
  simp -implicitDefEqProofs [go_sem,e1]
  refine ⟨by omega,ab n1 ?_⟩
  simp -implicitDefEqProofs [go_sem,e2]
  refine ⟨by omega,?_⟩
  refine aj 2 (α:={s:Nat×Int // s.1≤l.length∧0≤s.2∧s.2≤i*1048576+s.1∧(0<i∨2<s.1→1≤s.2)}) (fun s=>[(0,.sl 6 false (l.map pA)),(3,.int .i64 s.1.2),(4,.int .i64 i),(5,.ptr 0 0 0),(6,.ptr 1 0 0),(13,.sl 6 false (l.map pA)),(14,.int .i64 l.length),(15,.int .i64 i),(26,.sl 6 false (l.map pA)),(27,.int .i64 l.length),(28,.int .i64 s.1.1)])
   (fun s=>[(0,.live 6 [.agg (pC p)]),(1,.live 6 [.agg (pC q)])]) (fun s=>l.length-s.1.1) ⟨(0,T),by simp only; omega⟩ [] (by simp) (fun _ _ _ _ h=>h) (by omega) (by simp -implicitDefEqProofs [go_sem,hlw]) (by simp -implicitDefEqProofs [go_sem]) fun ⟨⟨k,U⟩,hk,u0,u1,u2⟩=>?_
  simp only at hk u0 u1 u2
  simp -implicitDefEqProofs [go_sem]
  refine ⟨fun h6=>?_,fun h6=>?_⟩
  ·have ek:=wS k (by omega)
   have f1:=kD (l:=l) (i:=k) h6
   have f2:=hcn k h6
   have f3:=hsm k h6
   have f4:=hor k h6
   have f5:=vK p q l[k]
   have f6:=hn2 k h6
   have f7:i=0→k=2→1≤PQ.orient p q l[k]:=fun a b=>by subst b; have:=hi0 a h6; omega
   generalize l[k]=r at *
   generalize PQ.orient p q r=O at *
   have eu:IntKind.i64.wrap (U+O)=U+O:=bQ (by omega)
   have hO:¬O<0:=by omega
   have hst:k+1≤l.length∧0≤U+O∧U+O≤i*1048576+(k+1:Nat)∧(0<i∨2<k+1→1≤U+O):=by
    refine ⟨h6,by omega,by omega,fun h=>?_⟩
    by_cases ha:0<i∨2<k
    ·have:=u2 ha; omega
    ·have:=f7 (by omega) (by omega); omega
   by_cases hki:k=i
   ·subst hki
    simp -implicitDefEqProofs [go_sem,f1]
    refine ⟨by omega,ab f2 ?_⟩
    simp -implicitDefEqProofs [go_sem,hO,eu,ek]
    refine ac ⟨(k+1,U+O),hst⟩ (by simp only; omega) [] (by simp) (fun _ _ _ _ h=>h) (by simp) (by simp -implicitDefEqProofs [go_sem,ek]) (by simp -implicitDefEqProofs [go_sem])
   ·have hki':¬(k:Int)=i:=by omega
    have f6:=f6 hki
    simp -implicitDefEqProofs [go_sem,f1,hki']
    refine ⟨by omega,ab f3 ?_⟩
    simp -implicitDefEqProofs [go_sem,f6]
    refine ab f2 ?_
    simp -implicitDefEqProofs [go_sem,hO,eu,ek]
    refine ac ⟨(k+1,U+O),hst⟩ (by simp only; omega) [] (by simp) (fun _ _ _ _ h=>h) (by simp) (by simp -implicitDefEqProofs [go_sem,ek]) (by simp -implicitDefEqProofs [go_sem])
  ·simp -implicitDefEqProofs [go_sem,es]
   refine ac ⟨(i+1,U),by refine ⟨h5,u0,?_,fun _=>u2 (.inr (by omega))⟩; simp only; omega⟩ (by simp only; omega) [] (by simp) (fun _ _ _ _ h=>h) (by simp) (by simp -implicitDefEqProofs [go_sem,es]) (by simp -implicitDefEqProofs [go_sem])
 ·have:0<T:=by have:=t2 (by omega); omega
  simp -implicitDefEqProofs [go_sem,this]
theorem qu (p0:PR) (a b:PQ) (hp0:p0.In 1048576) (ha:a.sz≤1048576) (hb:b.sz≤1048576):aa Tryz.prog 59 [p0.av,pA a,pA b] (rA (pq p0.val a b)):=by
 have hp:=hp0.sz
 have g1:=fun q (hq:PQ.sz q≤1073741824)=>dQ p0 (pc q) hp0.mono (bH (by omega))
 have g2:=fun q (hq:PQ.sz q≤1073741824)=>vN p0 (pc q) hp0.mono (bH hq)
 simp only [a9] at g1 g2
 obtain ⟨cc,hcc,c1,c2,c3,c4⟩:∃cc,p0.av = .agg cc∧cc.length=6∧cc.take 6=cc∧cc.drop 6=[]∧roL cc:=⟨_,rfl,rfl,rfl,rfl,by have:=l7 p0; unfold PR.av at this; simpa only [ro] using this⟩
 rw [hcc] at g1 g2 ⊢
 generalize p0.val=p at *
 have z1:=PQ.sz_sub b a
 have z2:=PQ.sz_sub p a
 have z3:=PQ.sz_dot (p.sub a) (b.sub a)
 have z4:=PQ.sz_dot (b.sub a) (b.sub a)
 have h1:=Gx b a (by omega) (by omega)
 have h2:=g1 a (by omega)
 have h3:=BB (p.sub a) (b.sub a) (by omega) (by omega)
 have h4:=BB (b.sub a) (b.sub a) (by omega) (by omega)
 have h5:=g2 a (by omega)
 have h6:=g2 b (by omega)
 have z5:=o_ ((p.sub a).dot (b.sub a)) ((b.sub a).dot (b.sub a))
 have h8:=gz 1 1 (by omega) (by omega) (by omega)
 rw [show ((1:Int):Rat) / ((1:Int):Rat)=1 by grind] at h8
 change aa _ _ [_,pA _] _ at h2 h5 h6
 refine Pg Tryz.func59 rfl [.cell 6 27] rfl (bI _) ?_
 unfold pq
 by_cases h0:(b.sub a).dot (b.sub a)=0
 ·have h7:=gX (qc ((p.sub a).dot (b.sub a))) (qc ((b.sub a).dot (b.sub a))) (dZ (by omega)) (dZ (by omega))
  rw [bD,bD,if_pos h0] at h7
  change aa _ _ [rA _,rA _] _ at h7
  unfold rZ at h7
  rw [if_pos h0]
  generalize (b.sub a).dot (b.sub a)=dd at *
  generalize (p.sub a).dot (b.sub a)=pd at *
  generalize p.sub a=pa at *
  generalize b.sub a=ba at *
  generalize p.far a=fa at *
  simp only [bS,d_] at h1 h2 h3 h4 h5 h7 ⊢
  simp -implicitDefEqProofs [go_sem,c1,c2]
  refine ab h1 ?_
  simp -implicitDefEqProofs [go_sem,c1,c2]
  refine aO _ h2 (by simp [go_sem,fh,c4]) ?_
  simp -implicitDefEqProofs [go_sem]
  refine ag h3 ?_
  simp -implicitDefEqProofs [go_sem]
  refine ag h4 ?_
  simp -implicitDefEqProofs [go_sem]
  refine ag h7 ?_
  simp -implicitDefEqProofs [go_sem,c1,c2]
  refine ao _ h5 (by simp [go_sem,fh,c4]) ?_
  simp -implicitDefEqProofs [go_sem,aK]
 ·have h7:=GB ((p.sub a).dot (b.sub a)) ((b.sub a).dot (b.sub a)) (by omega) (by omega) h0
  rw [if_neg h0]
  have z6:=PQ.sz_mix a b ((p.sub a).dot (b.sub a) / (b.sub a).dot (b.sub a))
  have h9:=Gw a b ((p.sub a).dot (b.sub a) / (b.sub a).dot (b.sub a)) (by omega) (by omega) (by omega)
  have h10:=g2 (a.mix b ((p.sub a).dot (b.sub a) / (b.sub a).dot (b.sub a))) (by omega)
  have h11:=Da ((p.sub a).dot (b.sub a) / (b.sub a).dot (b.sub a)) (by omega)
  have h12:=yN ((p.sub a).dot (b.sub a) / (b.sub a).dot (b.sub a)) 1 (by omega) (by rw [jJ]; omega)
  generalize (p.sub a).dot (b.sub a) / (b.sub a).dot (b.sub a)=t at *
  generalize (b.sub a).dot (b.sub a)=dd at *
  generalize (p.sub a).dot (b.sub a)=pd at *
  generalize p.sub a=pa at *
  generalize b.sub a=ba at *
  generalize p.far a=fa at *
  generalize p.far b=fb at *
  change aa _ _ [_,pA _] _ at h10
  generalize p.far (a.mix b t)=fm at *
  generalize a.mix b t=mx at *
  simp only [bS,d_] at h1 h2 h3 h4 h5 h6 h7 h8 h9 h10 h11 h12 ⊢
  simp -implicitDefEqProofs [go_sem,c1,c2]
  refine ab h1 ?_
  simp -implicitDefEqProofs [go_sem,c1,c2]
  refine aO _ h2 (by simp [go_sem,fh,c4]) ?_
  simp -implicitDefEqProofs [go_sem]
  refine ag h3 ?_
  simp -implicitDefEqProofs [go_sem]
  refine ag h4 ?_
  simp -implicitDefEqProofs [go_sem]
  refine ag h7 ?_
  simp -implicitDefEqProofs [go_sem,c1,c2]
  refine ab h11 ?_
  by_cases t0:t<0
  ·have:dC t<0:=kI.2 t0
   simp -implicitDefEqProofs [go_sem,this,t0,c1,c2]
   refine ao _ h5 (by simp [go_sem,fh,c4]) ?_
   simp -implicitDefEqProofs [go_sem,aK]
  ·have:¬dC t<0:=fun hh=>t0 (kI.1 hh)
   simp -implicitDefEqProofs [go_sem,this,t0]
   refine ag h8 ?_
   simp -implicitDefEqProofs [go_sem]
   refine ag h12 ?_
   by_cases t1:1<t
   ·have:0<c9 t 1:=fD.2 t1
    simp -implicitDefEqProofs [go_sem,this,t1,c1,c2]
    refine ao _ h6 (by simp [go_sem,fh,c4]) ?_
    simp -implicitDefEqProofs [go_sem,aK]
   ·have:¬0<c9 t 1:=fun hh=>t1 (fD.1 hh)
    simp -implicitDefEqProofs [go_sem,this,t1,c1,c2]
    refine ag h9 ?_
    simp -implicitDefEqProofs [go_sem]
    refine aO _ h10 (by simp [go_sem,fh,c4]) ?_
    simp -implicitDefEqProofs [go_sem,aK]
theorem AR (p a b:PQ) (hp:p.sz≤1048576) (ha:a.sz≤1048576) (hb:b.sz≤1048576):aa Tryz.prog 59 [pA p,pA a,pA b] (rA (pq p a b)):=by
 have h:=qu (pc p) a b (bH hp) ha hb
 rw [a9] at h; exact h
theorem zero_add (c r:PQ):((⟨0,0⟩:PQ).add r).add c=c.add r:=by
 unfold PQ.add
 exact PQ.ext (by simp only; grind) (by simp only; grind)
end Go.Proofs.YtdnmfaljidjijaaGreat
