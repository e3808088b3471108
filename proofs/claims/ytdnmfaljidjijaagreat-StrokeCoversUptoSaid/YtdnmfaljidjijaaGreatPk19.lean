import Derived.Test.YtdnmfaljidjijaaGreatPk05
import Derived.Test.YtdnmfaljidjijaaGreatPk06
import Derived.Test.YtdnmfaljidjijaaGreatPk07
import Derived.Test.YtdnmfaljidjijaaGreatPk09
import Derived.Test.YtdnmfaljidjijaaGreatPk12
import Derived.Test.YtdnmfaljidjijaaGreatPk14
import Derived.Test.YtdnmfaljidjijaaGreatPk15
import Derived.ProofKit
import Derived.Carry
namespace Go.Proofs.YtdnmfaljidjijaaGreat
set_option maxHeartbeats 16000000
open Go Go.Proofs
open Go.ChangeShapes Go.WideShapes Go.ChangeAt Go.RowKit
set_option linter.unusedSimpArgs false
set_option linter.unusedVariables false
theorem JJ {P:Program} {W:World} {r:Reach} {b:Nat} {t:TypeId} {k:IntKind} {v:Value} (ht:P.underlying t=some (.int k)) (h:Value.okWide P W r b t v):v.cells = #[v]:=by
 unfold Value.okWide at h
 rw [ht] at h
 cases v<;>first|rfl|(simp [Cell.okWide,Cell.ok,ht] at h; done)
set_option maxRecDepth 20000
theorem GJ {a b n:PQ} {t:Rat} (ht:0≤t) (ht1:t≤1) (hX:0<(b.sub a).cross n) (hd:(b.sub a).dot n=0):∀i (hi:i<(bh a b n).length),0≤(((bh a b n)[(i+1)%(bh a b n).length]'(Nat.mod_lt _ (by omega))).sub (bh a b n)[i]).cross ((a.mix b t).sub (bh a b n)[i]):=by
 intro i hi
 have hu:0≤1-t:=by grind
 have e0:((b.sub n).sub (a.sub n)).cross ((a.mix b t).sub (a.sub n))=(b.sub a).cross n:=by unfold PQ.mix PQ.scale PQ.add PQ.sub PQ.cross; simp only; grind
 have e1:((b.add n).sub (b.sub n)).cross ((a.mix b t).sub (b.sub n))=2*((1-t)*(b.sub a).cross n):=by unfold PQ.mix PQ.scale PQ.add PQ.sub PQ.cross; simp only; grind
 have e2:((a.add n).sub (b.add n)).cross ((a.mix b t).sub (b.add n))=(b.sub a).cross n:=by unfold PQ.mix PQ.scale PQ.add PQ.sub PQ.cross; simp only; grind
 have e3:((a.sub n).sub (a.add n)).cross ((a.mix b t).sub (a.add n))=2*(t*(b.sub a).cross n):=by unfold PQ.mix PQ.scale PQ.add PQ.sub PQ.cross; simp only; grind
 have h1:=Rat.mul_nonneg hu (Rat.le_of_lt hX)
 have h2:=Rat.mul_nonneg ht (Rat.le_of_lt hX)
 have hi4:i<4:=hi
 rcases (show i=0∨i=1∨i=2∨i=3 by omega) with rfl|rfl|rfl|rfl
 ·simp only [bh,List.length_cons,List.length_nil,Nat.reduceAdd,Nat.reduceMod,List.getElem_cons_zero,List.getElem_cons_succ]; rw [e0]; grind
 ·simp only [bh,List.length_cons,List.length_nil,Nat.reduceAdd,Nat.reduceMod,List.getElem_cons_zero,List.getElem_cons_succ]; rw [e1]; grind
 ·simp only [bh,List.length_cons,List.length_nil,Nat.reduceAdd,Nat.reduceMod,List.getElem_cons_zero,List.getElem_cons_succ]; rw [e2]; grind
 ·simp only [bh,List.length_cons,List.length_nil,Nat.reduceAdd,Nat.reduceMod,List.getElem_cons_zero,List.getElem_cons_succ]; rw [e3]; grind
theorem Br {c:List PQ} {closed:Bool} {s:SR} {m:List (List PQ)} (h:aD (iz c closed s)=(m,0)) (hn:2≤c.length) (hz:∀p∈c,p.sz≤1) (hs:s.Sml) {k:Nat} (hk:k<aG c.length closed) {t:Rat} (h0:0≤t) (h1:t≤1) :
 ∃x∈m,3≤x.length∧∀i (hi:i<x.length),0≤PQ.orient x[i] (x[(i+1)%x.length]'(Nat.mod_lt _ (by omega))) ((aK c k).mix (aK c (k+1)) t):=by
 have hc:c≠[]:=fun e=>by rw [e] at hn; simp at hn
 have z:=fun i=>hz _ (d7 hc i)
 obtain ⟨_,hok,_⟩:=lJ _ _ h
 unfold iz at hok
 rw [if_neg (by omega)] at hok
 have hm:fk (aK c k) (aK c (k+1)) s∈ir c closed s:=List.mem_map.2 ⟨k,List.mem_range.2 hk,rfl⟩
 obtain ⟨q1,q2⟩:=hok _ (List.mem_append.2 (.inl hm))
 rcases kM (l:=(fk (aK c k) (aK c (k+1)) s).1) (e:=(fk (aK c k) (aK c (k+1)) s).2) rfl (z k) (z (k+1)) hs with ⟨_,he⟩|⟨n,e,_,_,u⟩
 ·exact absurd q1 he
 ·rw [e] at q2
  refine ⟨_,q2 (pF _ _ _),by simp [bh],fun i hi=>?_⟩
  exact oY.2 (GJ h0 h1 u.cross u.dot i hi)
def Lb (l:List PQ) (p:PQ):Prop:=3≤l.length∧∀i (hi:i<l.length),0≤PQ.orient l[i] (l[(i+1)%l.length]'(Nat.mod_lt _ (by omega))) p
theorem HI (l:List PQ) (p:PQ) (hl:l.length≤1048576) (hs:∀q∈l,q.sz≤1073741824) (hp:p.sz≤1073741824):∃b:Bool,ag Tryz.prog 57 [pL l,pA p] (.bool b)∧(Lb l p→b=true):=by
 have hlw:IntKind.i64.wrap (l.length:Int)=l.length:=bS (by omega)
 have hnx:=fun i hi=>nw l i (by omega) (by omega) hi
 have hlt:∀i,i<l.length→(i+1)%l.length<l.length:=fun i h=>Nat.mod_lt _ (by omega)
 refine ⟨decide ((∀i (hi:i<l.length),0≤PQ.orient l[i] (l[(i+1)%l.length]'(hlt i hi)) p)∧3≤l.length),?_,fun h=>decide_eq_true ⟨h.2,h.1⟩⟩
 have hg:∀i (h:i<l.length),bU (l.map pA) (i:Int) = .agg (pC l[i]):=fun i h=>eV h
 have hVl:(l.map pA).length=l.length:=by simp
 have hVr:=bK l
 refine Pg Tryz.func57 rfl [.tmp 4] rfl (by simp -implicitDefEqProofs [go_sem]) ?_
 unfold pL at *
 simp only [aQ]
 generalize l.map pA=V at *
 simp -implicitDefEqProofs [go_sem,hlw,hVl]
 refine ap 1 (α:={i:Nat // i≤l.length∧∀j (h:j<l.length),j<i→0≤PQ.orient l[j] (l[(j+1)%l.length]'(hlt j h)) p}) (fun i=>[(0,.sl 6 false V),(3,.ptr 0 0 0),(7,.sl 6 false V),(8,.int .i64 l.length),(9,.int .i64 i.1)]) (fun _=>[(0,.live 6 [.agg (pC p)])]) (fun i=>l.length-i.1) ⟨0,Nat.zero_le _,fun j _ h=>absurd h (by omega)⟩ [] (by simp) (by simp [nm]) (by simp) (by simp -implicitDefEqProofs [go_sem,renL_ro (nm []) _ hVr,cloL_ro (n:=1) _ hVr]) (by simp -implicitDefEqProofs [go_sem]) fun ⟨i,hi,hj⟩=>?_
 by_cases a:i<l.length
 rotate_left
 ·have a1:¬(i:Int)<l.length:=by omega
  have hT:(∀i (hi:i<l.length),0≤PQ.orient l[i] (l[(i+1)%l.length]'(hlt i hi)) p):=fun j h=>hj j h (by omega)
  simp -implicitDefEqProofs [go_sem,a1,hVl,hT]
  omega
 have a1:(i:Int)<l.length:=by omega
 have es:=wS i (by omega)
 have gi:=hg i a
 have gm:=hg _ (hlt i a)
 have kn:=hnx i a
 have ko:=Ax l[i] (l[(i+1)%l.length]'(hlt i a)) p (hs _ (List.getElem_mem a)) (hs _ (List.getElem_mem (hlt i a))) hp
 have hm:=hlt i a
 simp only [aQ] at ko
 by_cases b:0≤PQ.orient l[i] (l[(i+1)%l.length]'(hlt i a)) p
 ·have hn:∀j (h:j<l.length),j<i+1→0≤PQ.orient l[j] (l[(j+1)%l.length]'(hlt j h)) p:=fun j h h'=>by
   by_cases e:j=i
   ·subst e; exact b
   ·exact hj j h (by omega)
  have b1:¬PQ.orient l[i] (l[(i+1)%l.length]'(hlt i a)) p<0:=by omega
  generalize PQ.orient l[i] (l[(i+1)%l.length]'(hlt i a)) p=O at *
  generalize (l[(i+1)%l.length]'(hlt i a))=y at *
  generalize l[i]=x at *
  generalize (i+1)%l.length=j at *
  simp -implicitDefEqProofs [go_sem,a,a1,hVl,gi]
  refine ao _ kn (by simp [go_sem,hVr]) ?_
  simp -implicitDefEqProofs [go_sem,gm,hm,hVl]
  refine aa ko ?_
  simp -implicitDefEqProofs [go_sem,b1,es]
  exact ae ⟨i+1,a,hn⟩ (by simp only; omega) [] (by simp) (by simp [nm]) (by simp) (by simp -implicitDefEqProofs [go_sem,renL_ro (nm []) _ hVr,cloL_ro (n:=1) _ hVr]) (by simp -implicitDefEqProofs [go_sem])
 ·have b1:PQ.orient l[i] (l[(i+1)%l.length]'(hlt i a)) p<0:=by omega
  have hF:¬(∀i (hi:i<l.length),0≤PQ.orient l[i] (l[(i+1)%l.length]'(hlt i hi)) p):=fun h=>b (h i a)
  generalize PQ.orient l[i] (l[(i+1)%l.length]'(hlt i a)) p=O at *
  generalize (l[(i+1)%l.length]'(hlt i a))=y at *
  generalize l[i]=x at *
  generalize (i+1)%l.length=j at *
  simp -implicitDefEqProofs [go_sem,a,a1,hVl,gi]
  refine ao _ kn (by simp [go_sem,hVr]) ?_
  simp -implicitDefEqProofs [go_sem,gm,hm,hVl]
  refine aa ko ?_
  simp -implicitDefEqProofs [go_sem,b1,hF]
theorem pj (l:List PR) (closed:Bool) (s:SR) (u:Int) (hu:(Lit.int .u8 u).wf=true) (hl:l.length≤9223372036854775807) (hp:∀p∈l,p.Lm) (hs:s.Lm) (hi:s.In 1048576):ag Tryz.prog 11 [.agg [fK l,.bool closed],s.av,.int .u8 u] (.bool true):=by
 have hu2:0≤u∧u≤255:=by simpa [Lit.wf,IntKind.min,IntKind.max,IntKind.signed,IntKind.bits] using hu
 obtain ⟨b,kl,kb⟩:=iK l closed s hl hp hs
 have kw:=fP
 have rpr:=jS l
 have sro:=s.ro_cs
 have hsav:s.av = .agg s.cs:=rfl
 have slen:s.cs.length=11:=rfl
 have stk:s.cs.take 11=s.cs:=rfl
 rw [hsav] at kl ⊢
 refine Pg Tryz.func11 rfl [.tmp 6] rfl (by simp -implicitDefEqProofs [go_sem]) ?_
 cases b with
 | false =>
  clear kb
  generalize fK l=PL at *
  generalize s.cs=S at *
  simp -implicitDefEqProofs [go_sem,rpr,sro,slen,stk]
  refine ah _ kl (by simp [go_sem,rpr,sro]) ?_
  simp -implicitDefEqProofs [go_sem]
  refine ac kw ?_
  simp -implicitDefEqProofs [go_sem]
 | true =>
  have hL:=kb rfl
  clear kb
  have kp:=eE l closed s (by have:=hL.len; omega) hL.pts hL.nigh hi hL.sty
  rw [hsav] at kp
  have ki:=kR l closed (by have:=hL.len; omega) fun p hp=>(hL.pts p hp).mono
  have hcz:∀p∈l.map PR.val,p.sz≤4294967296:=fun p hp=>by
   obtain ⟨q,hq,rfl⟩:=List.mem_map.1 hp
   have:=(hL.pts q hq).sz
   omega
  have kc:=jF (l.map PR.val) closed (by rw [List.length_map]; have:=hL.len; omega) hcz
  have hF:=hL.facts closed _ rfl
  have hz:∀p∈bp (l.map PR.val) closed,p.sz≤1:=fun p hp=>by
   obtain ⟨q,hq,rfl⟩:=List.mem_map.1 (gO _ _ p hp)
   exact (hL.pts q hq).sz
  have hcl:=ja (l.map PR.val) closed
  rw [List.length_map] at hcl
  have hl8:=hL.len
  generalize bp (l.map PR.val) closed=C at *
  generalize c9 (l.map PR.val) closed s=X at *
  generalize l.map PR.val=Z at *
  have g1:=bI s.width hi.width.sm.ok
  have z1:=bR (x:=s.width.val)
  have rZ:=jt Z closed
  have rEC:=jt C closed
  have eX:qO X = .tup [yq X.1,.int .i64 X.2]:=rfl
  rw [eX] at kp
  have rX:=qf X.1
  have eCl:yT C closed = .agg [.sl 6 false (C.map eA),.bool closed]:=rfl
  rw [eCl] at kc rEC
  have eP:yq X.1 = .sl 1 false (X.1.map pL):=rfl
  rw [eP] at kp rX
  have stk3:s.cs.take 3=s.width.cells:=rfl
  have hwav:s.width.av = .agg s.width.cells:=rfl
  have wro:roL s.width.cells:=by have:=wc s.width; rw [hwav] at this; simpa only [ro] using this
  rw [hwav] at g1
  generalize hS:s.cs=S at *
  generalize hW:s.width.cells=W at *
  generalize fK l=PL at *
  generalize yT Z closed=EZ at *
  generalize hV:X.1.map pL=V at *
  simp -implicitDefEqProofs [go_sem,rpr,sro,slen,stk]
  refine ah _ kl (by simp [go_sem,rpr,sro]) ?_
  simp -implicitDefEqProofs [go_sem,slen,stk]
  refine ah _ kp (by simp [go_sem,rpr,sro]) ?_
  simp -implicitDefEqProofs [go_sem]
  refine ah _ ki (by simp [go_sem,rpr]) ?_
  simp -implicitDefEqProofs [go_sem]
  refine ah _ kc (by simp [go_sem,rZ]) ?_
  simp -implicitDefEqProofs [go_sem]
  by_cases e0:X.2=0
  rotate_left
  ·have v0:V=[]:=by rw [←hV,hF.err e0]; rfl
   simp -implicitDefEqProofs [go_sem,e0,v0]
   refine ac kw ?_
   simp -implicitDefEqProofs [go_sem]
  by_cases c1:C.length<2
  ·have i1:(C.length:Int)<2:=by omega
   have i2:¬(2:Int)≤C.length:=by omega
   simp -implicitDefEqProofs [go_sem,e0,i1,i2]
   refine ac kw ?_
   simp -implicitDefEqProofs [go_sem]
  have c0:C≠[]:=fun e=>c1 (by rw [e]; simp)
  have hn0:0<C.length:=by omega
  have i0:(2:Int)≤C.length:=by omega
  have i1:¬(C.length:Int)<2:=by omega
  have stk3':S.take 3=W:=by rw [←hS,←hW]; rfl
  by_cases w0:s.width.val≤0
  ·have w1:=z1.2 w0
   simp -implicitDefEqProofs [go_sem,e0,c0,i0,i1,slen,stk3']
   refine ah _ g1 (by simp [go_sem,wro]) ?_
   simp -implicitDefEqProofs [go_sem,e0,w1]
   refine ac kw ?_
   simp -implicitDefEqProofs [go_sem]
  have w1:¬aM s.width.val≤0:=fun h=>w0 (z1.1 h)
  obtain ⟨hsm,hfq⟩:=hF.ok e0 c0 (Rat.not_le.1 w0)
  simp -implicitDefEqProofs [go_sem,e0,c0,i0,i1,slen,stk3']
  refine ah _ g1 (by simp [go_sem,wro]) ?_
  obtain ⟨U,rfl⟩:∃U:Nat,u=U:=⟨u.toNat,by omega⟩
  have wu:IntKind.i64.wrap (U:Int)=U:=bS (by omega)
  have em:Int.tmod (U:Int) (C.length:Int)=(U%C.length:Nat):=by rw [Int.tmod_eq_emod_of_nonneg (by omega)]; rfl
  have hk0:U%C.length<C.length:=Nat.mod_lt _ hn0
  generalize U%C.length=k0 at *
  have wk:IntKind.i64.wrap ((k0:Int)+1)=(k0:Int)+1:=bS (by omega)
  have wk2:IntKind.i64.wrap ((k0:Int)-1)=(k0:Int)-1:=bS (by omega)
  have l0:¬C.length=0:=by omega
  have hC:∀i (h:i<C.length),bU (C.map eA) (i:Int) = .agg (eC C[i]):=fun i h=>f_ h
  have hCl:(C.map eA).length=C.length:=by simp
  have hVl:V.length=X.1.length:=by rw [←hV]; simp
  have hVg:∀i (h:i<X.1.length),bU V (i:Int) = .sl 6 false (X.1[i].map pA):=fun i h=>by rw [←hV]; exact dM h
  have hVr:roL V:=by rw [←hV]; exact ma _
  have hCr:=cY C
  have hat:∀i (h:i<C.length),C[i]=aK C i:=fun i h=>(wL h).symm
  have hF2:=hF.fine
  have hF3:=hF.len
  have hU0:(0:Rat)≤((U:Int):Rat):=by exact_mod_cast hu2.1
  have hU1:((U:Int):Rat)≤255:=by exact_mod_cast hu2.2
  have ht0:0≤((U:Int):Rat) / ((255:Int):Rat):=by clear kl kp ki kc hF g1 z1 hfq hC hCl hVg hVr hCr hat hF2 hz; grind
  have ht1:((U:Int):Rat) / ((255:Int):Rat)≤1:=by clear kl kp ki kc hF g1 z1 hfq hC hCl hVg hVr hCr hat hF2 hz; grind
  have hcov:=fun k (hk:k<aG C.length closed)=>Br hfq (by omega) hz hsm hk (t:=((U:Int):Rat) / ((255:Int):Rat)) ht0 ht1
  generalize C.map eA=CA at *
  clear kl kp ki kc hF g1 z1 hfq
  have key:∀k,k<aG C.length closed→k<C.length:=fun k h=>by unfold aG at h; split at h<;>omega
  have hin:∀k,k<aG C.length closed→∃m,k<C.length∧m<C.length∧(k+1)%C.length=m∧IntKind.i64.wrap ((k:Int)+1)=(k:Int)+1∧Int.tmod ((k:Int)+1) (C.length:Int)=(m:Int)∧bU CA (k:Int) = .agg (eC (aK C k))∧bU CA (m:Int) = .agg (eC (aK C (k+1))):=fun k h=>by
   have hk:=key k h
   have hm:(k+1)%C.length<C.length:=Nat.mod_lt _ hn0
   refine ⟨(k+1)%C.length,hk,hm,rfl,bS (by omega),by rw [Int.tmod_eq_emod_of_nonneg (by omega)]; rfl,by rw [hC k hk,hat k hk],by rw [hC _ hm,hat _ hm,rm]⟩
  have kr:=bM U 255 (by omega) (by omega) (by omega)
  have zr:=gD (p:=U) (q:=255) (by omega) (by omega) (by omega)
  generalize ((U:Int):Rat) / ((255:Int):Rat)=r at *
  have hz':=fun i=>hz _ (d7 c0 i)
  by_cases c3:k0+1=C.length
  have c3':(k0:Int)+1=C.length:=by omega
  cases closed
  obtain ⟨k,rfl⟩:∃k,k0=k+1:=⟨k0-1,by omega⟩
  have hks:k<aG C.length false:=by unfold aG; simp only [Bool.false_eq_true,if_false]; omega
  obtain ⟨m,f1,f2,f3,f4,f5,f6,f7⟩:=hin _ hks
  have wk3:IntKind.i64.wrap (k:Int)=k:=bS (by omega)
  rw [show ((k+1:Nat):Int)=(k:Int)+1 by omega] at wk c3' em
  simp -implicitDefEqProofs [go_sem,w1,slen,stk3',wu,em,wk,l0,eq_true c3',hCl,wk3,f1,f6]
  rotate_left
  generalize k0=k at *
  have hks:k<aG C.length true:=by unfold aG; simp only [if_true]; exact hk0
  obtain ⟨m,f1,f2,f3,f4,f5,f6,f7⟩:=hin _ hks
  simp -implicitDefEqProofs [go_sem,w1,slen,stk3',wu,em,wk,l0,eq_true c3',hCl,f1,f6]
  rotate_left
  generalize k0=k at *
  have c3':¬(k:Int)+1=C.length:=by omega
  have hks:k<aG C.length closed:=by unfold aG; split<;>omega
  obtain ⟨m,f1,f2,f3,f4,f5,f6,f7⟩:=hin _ hks
  simp -implicitDefEqProofs [go_sem,w1,slen,stk3',wu,em,wk,l0,c3',hCl,f1,f6]
  rotate_left
  all_goals
   have zk:=hz' k
   have zk1:=hz' (k+1)
   have ka:=eO (aK C k) (by omega)
   have kb:=eO (aK C (k+1)) (by omega)
   have km:=Ig (aK C k) (aK C (k+1)) r (by omega) (by omega) (by omega)
   have zmx:=PQ.sz_mix (aK C k) (aK C (k+1)) r
   obtain ⟨x0,hx0,hx3,hxo⟩:=hcov k hks
   generalize (aK C k).mix (aK C (k+1)) r=q at *
   have hhas:∀i (h:i<X.1.length),∃b:Bool,ag Tryz.prog 57 [.sl 6 false (X.1[i].map pA),pA q] (.bool b)∧(Lb X.1[i] q→b=true):=fun i h=>HI X.1[i] q (by have:=(hF2 _ (List.getElem_mem h)).1; omega) (fun x hx=>by have:=(hF2 _ (List.getElem_mem h)).2 x hx; omega) (by omega)
   obtain ⟨hb,hhb⟩:∃hb:Nat→Bool,∀i (h:i<X.1.length),ag Tryz.prog 57 [.sl 6 false (X.1[i].map pA),pA q] (.bool (hb i))∧(Lb X.1[i] q→hb i=true) :=
    ⟨fun i=>if h:i<X.1.length then (hhas i h).choose else true,fun i h=>by simp only [dif_pos h]; exact (hhas i h).choose_spec⟩
   obtain ⟨j0,hj0,hj1⟩:∃j,j<X.1.length∧hb j=true:=by
    obtain ⟨j,hj,e⟩:=List.mem_iff_getElem.1 hx0
    subst e
    exact ⟨j,hj,(hhb j hj).2 ⟨hx3,hxo⟩⟩
   clear hhas hxo hcov hin key
   simp only [aP,aQ,bA] at ka kb km kr hhb
   refine aa ka ?_
   simp -implicitDefEqProofs [go_sem,f2,f4,f5,f7,hCl,l0]
   refine aa kb ?_
   simp -implicitDefEqProofs [go_sem,wu]
   refine aa kr ?_
   simp -implicitDefEqProofs [go_sem]
   refine aa km ?_
   simp -implicitDefEqProofs [go_sem]
   refine ap 1 (α:={i:Nat // i≤X.1.length}) (fun i=>[(7,.sl 1 false V),(11,.ptr 0 0 0),(12,.bool (decide (∃j,j<i.1∧hb j=true))),(13,.int .i64 i.1)]) (fun _=>[(0,.live 6 [.agg (pC q)])]) (fun i=>X.1.length-i.1) ⟨0,Nat.zero_le _⟩ [(0,24)] (by simp) (by simp [nm]) (by simp) (by simp -implicitDefEqProofs [go_sem,renL_ro (nm [(0,24)]) _ hVr,cloL_ro (n:=1) _ hVr]) (by simp -implicitDefEqProofs [go_sem]) fun ⟨i,hi⟩=>?_
   by_cases a:i<X.1.length
   ·have a1:(i:Int)<X.1.length:=by omega
    have es:=wS i (by omega)
    have gi:=hVg i a
    have ki:=(hhb i a).1
    have hN:decide (∃j,j<i+1∧hb j=true)=(decide (∃j,j<i∧hb j=true) || hb i):=by
     rw [←Bool.decide_eq_true (b:=hb i),←Bool.decide_or,decide_eq_decide]
     constructor
     ·rintro ⟨j,h1,h2⟩
      by_cases e:j=i
      ·subst e; exact .inr h2
      ·exact .inl ⟨j,by omega,h2⟩
     ·rintro (⟨j,h1,h2⟩|h)
      ·exact ⟨j,by omega,h2⟩
      ·exact ⟨i,by omega,h⟩
    have hxr:=bK X.1[i]
    generalize X.1[i].map pA=xA at *
    generalize decide (∃j,j<i∧hb j=true)=B at *
    generalize hb i=b at *
    cases B
    ·simp -implicitDefEqProofs [go_sem,a,a1,hVl,gi]
     refine ao _ ki (by simp [go_sem,hxr]) ?_
     simp -implicitDefEqProofs [go_sem,es]
     exact ae ⟨i+1,by omega⟩ (by simp only; omega) [] (by simp) (by simp [nm]) (by simp) (by simp only [hN]; simp -implicitDefEqProofs [go_sem,renL_ro (nm []) _ hVr,cloL_ro (n:=1) _ hVr]) (by simp -implicitDefEqProofs [go_sem])
    ·simp -implicitDefEqProofs [go_sem,a,a1,hVl,es]
     exact ae ⟨i+1,by omega⟩ (by simp only; omega) [] (by simp) (by simp [nm]) (by simp) (by simp only [hN]; simp -implicitDefEqProofs [go_sem,renL_ro (nm []) _ hVr,cloL_ro (n:=1) _ hVr]) (by simp -implicitDefEqProofs [go_sem])
   ·have a1:¬(i:Int)<X.1.length:=by omega
    have hT:∃j,j<i∧hb j=true:=⟨j0,by omega,hj1⟩
    simp -implicitDefEqProofs [go_sem,a1,hVl,hT]
    refine ac kw ?_
    simp -implicitDefEqProofs [go_sem]
end Go.Proofs.YtdnmfaljidjijaaGreat
