import Derived.Test.YtdnmfaljidjijaaGreatPk05
import Derived.Test.YtdnmfaljidjijaaGreatPk07
import Derived.Test.YtdnmfaljidjijaaGreatPk13
import Derived.Test.YtdnmfaljidjijaaGreatPk14
namespace Go.Proofs.YtdnmfaljidjijaaGreat
open Go Go.Proofs
set_option linter.unusedSimpArgs false
set_option linter.unusedVariables false
set_option maxRecDepth 20000
theorem C2 (p q r:PQ):(p.sub q).cross (r.sub q) = -((q.sub p).cross (r.sub p)):=by
 unfold PQ.sub PQ.cross; simp only; grind
theorem Aq {n i:Nat} (hi:i<n):(n-(i+1)%n)%n=n-1-i∧(n-1-i+1)%n=(n-i)%n:=by
 rcases Nat.lt_or_ge (i+1) n with h|h
 ·rw [Nat.mod_eq_of_lt h]
  refine ⟨by rw [Nat.mod_eq_of_lt (by omega)]; omega,by rw [show n-1-i+1=n-i by omega]⟩
 ·have:i+1=n:=by omega
  subst this
  rw [Nat.mod_self,Nat.sub_zero,Nat.mod_self]
  exact ⟨by omega,by rw [show i+1-1-i+1=i+1-i by omega]⟩
theorem Cvx.flip {l:List PQ} (h:Cvx l) {m:MQ} (hm:m.det<0):Cvx (iF (l.map m.app)):=by
 have hlen:(iF (l.map m.app)).length=l.length:=by rw [jo,List.length_map]
 have gt:∀i (hi:i<l.length),(iF (l.map m.app))[i]'(by omega)=m.app (l[(l.length-i)%l.length]'(Nat.mod_lt _ (by omega))):=fun i hi=>by
  rw [sS]; simp only [List.length_map,List.getElem_map]
 have h3:=h.len
 refine ⟨by omega,fun i k hi hk hne=>?_,fun i k hi hk=>?_,?_,?_⟩
 ·rw [hlen] at hi hk
  rw [gt i hi,gt k hk]
  refine fun e=>h.ne ((l.length-i)%l.length) ((l.length-k)%l.length) (Nat.mod_lt _ (by omega)) (Nat.mod_lt _ (by omega)) (fun hh=>hne ?_) (Dd (by grind) e)
  rcases Nat.eq_zero_or_pos i with h0|h0<;>rcases Nat.eq_zero_or_pos k with h1|h1
  ·omega
  ·rw [h0,Nat.sub_zero,Nat.mod_self,Nat.mod_eq_of_lt (by omega)] at hh; omega
  ·rw [h1,Nat.sub_zero,Nat.mod_self,Nat.mod_eq_of_lt (by omega)] at hh; omega
  ·rw [Nat.mod_eq_of_lt (by omega),Nat.mod_eq_of_lt (by omega)] at hh; omega
 ·rw [hlen] at hi hk
  obtain ⟨n1,n2⟩:=Aq hi
  have e1:(i+1)%(iF (l.map m.app)).length=(i+1)%l.length:=by rw [hlen]
  have g1:=gt ((i+1)%l.length) (Nat.mod_lt _ (by omega))
  simp only [n1] at g1
  simp only [e1]
  rw [g1,gt i hi,gt k hk,i_]
  have ht:=h.turn (l.length-1-i) ((l.length-k)%l.length) (by omega) (Nat.mod_lt _ (by omega))
  simp only [n2] at ht
  rw [C2]
  have:=Rat.mul_nonneg (show 0 ≤ -m.det by grind) ht
  grind
 ·rw [gt 0 (by omega),gt 1 (by omega),gt 2 (by omega),i_]
  have hl:=h.lst
  have e0:(l.length-0)%l.length=0:=by rw [Nat.sub_zero,Nat.mod_self]
  have e1:(l.length-1)%l.length=l.length-1:=Nat.mod_eq_of_lt (by omega)
  have e2:(l.length-2)%l.length=l.length-2:=Nat.mod_eq_of_lt (by omega)
  simp only [e0,e1,e2]
  generalize l[0]=x at *
  generalize l[l.length-1]=y at *
  generalize l[l.length-2]=z at *
  have e:(y.sub x).cross (z.sub x) = -((y.sub z).cross (x.sub z)):=by unfold PQ.sub PQ.cross; simp only; grind
  rw [e]
  have:=Rat.mul_pos (show 0 < -m.det by grind) hl
  grind
 ·have hl:=h.fst
  have e1:(iF (l.map m.app)).length-1=l.length-1:=by omega
  have e2:(iF (l.map m.app)).length-2=l.length-2:=by omega
  have g1:=gt (l.length-1) (by omega)
  have g2:=gt (l.length-2) (by omega)
  have g0:=gt 0 (by omega)
  have q0:(l.length-0)%l.length=0:=by rw [Nat.sub_zero,Nat.mod_self]
  have q1:(l.length-(l.length-1))%l.length=1:=by rw [show l.length-(l.length-1)=1 by omega]; exact Nat.mod_eq_of_lt (by omega)
  have q2:(l.length-(l.length-2))%l.length=2:=by rw [show l.length-(l.length-2)=2 by omega]; exact Nat.mod_eq_of_lt (by omega)
  simp only [q0] at g0
  simp only [q1] at g1
  simp only [q2] at g2
  simp only [e1,e2]
  rw [g0,g1,g2,i_]
  generalize l[0]=x at *
  generalize l[1]=y at *
  generalize l[2]=z at *
  have e:(y.sub z).cross (x.sub z) = -((y.sub x).cross (z.sub x)):=by unfold PQ.sub PQ.cross; simp only; grind
  rw [e]
  have:=Rat.mul_pos (show 0 < -m.det by grind) hl
  grind
def cS (P:Nat→PQ) (n:Nat):Nat→Rat
 | 0=>0
 | k+1=>cS P n k+(P k).cross (P ((k+1)%n))
theorem r9 {P P':Nat→PQ} {n:Nat} (h:∀i,i<n→P i=P' i):∀k,k≤n→cS P n k=cS P' n k
 | 0,_=>rfl
 | k+1,hk=>by
  simp only [cS]
  rw [r9 h k (by omega),h k (by omega),h ((k+1)%n) (Nat.mod_lt _ (by omega))]
theorem ys (l:List PQ):∀k,aS l k=cS (fun i=>l.getD i ⟨0,0⟩) l.length k
 | 0=>rfl
 | k+1=>by simp only [aS,cS]; rw [ys l k]
theorem Gx (m:MQ) (p q:PQ):(m.app p).cross (m.app q)=m.det*p.cross q+((⟨m.e,m.f⟩:PQ).cross ((m.app q).sub (m.app p))):=by
 unfold MQ.app MQ.det PQ.cross PQ.sub; simp only; grind
theorem sj (t p q r:PQ):t.cross (q.sub p)+t.cross (r.sub q)=t.cross (r.sub p):=by
 unfold PQ.cross PQ.sub; simp only; grind
theorem Dh (m:MQ) (P:Nat→PQ) (n:Nat):∀k,k+1≤n→cS (fun i=>m.app (P i)) n k=m.det*cS P n k+(⟨m.e,m.f⟩:PQ).cross ((m.app (P k)).sub (m.app (P 0)))
 | 0,_=>by simp only [cS]; unfold PQ.cross PQ.sub; simp only; grind
 | k+1,hk=>by
  simp only [cS]
  rw [Dh m P n k (by omega),Gx,Nat.mod_eq_of_lt (by omega)]
  have:=sj ⟨m.e,m.f⟩ (m.app (P 0)) (m.app (P k)) (m.app (P (k+1)))
  grind
theorem Lk (m:MQ) (P:Nat→PQ) (n:Nat) (hn:0<n):cS (fun i=>m.app (P i)) n n=m.det*cS P n n:=by
 obtain ⟨k,rfl⟩:∃k,n=k+1:=⟨n-1,by omega⟩
 have h:=Dh m P (k+1) k (Nat.le_refl _)
 simp only [cS]
 rw [h,Gx,Nat.mod_self]
 have:=sj ⟨m.e,m.f⟩ (m.app (P 0)) (m.app (P k)) (m.app (P 0))
 have e:(⟨m.e,m.f⟩:PQ).cross ((m.app (P 0)).sub (m.app (P 0)))=0:=by unfold PQ.cross PQ.sub; simp only; grind
 rw [e] at this
 grind
theorem Dg (P:Nat→PQ) (n:Nat):∀k,k≤n→cS (fun i=>P ((n-i)%n)) n k = -(cS P n n-cS P n (n-k))
 | 0,_=>by simp only [cS,Nat.sub_zero]; grind
 | k+1,hk=>by
  obtain ⟨n1,n2⟩:=Aq (n:=n) (i:=k) (by omega)
  simp only [cS]
  rw [Dg P n k (by omega),n1]
  have e:n-k=(n-(k+1))+1:=by omega
  have e2:cS P n (n-k)=cS P n (n-(k+1))+(P (n-1-k)).cross (P ((n-k)%n)):=by
   rw [e]; simp only [cS]
   rw [show n-(k+1)+1=n-k by omega,show n-(k+1)=n-1-k by omega]
  rw [e2]
  have e3:(P ((n-k)%n)).cross (P (n-1-k)) = -((P (n-1-k)).cross (P ((n-k)%n))):=by unfold PQ.cross; grind
  rw [e3]; grind
theorem yx (m:MQ) {l:List PQ} (hl:l≠[]):er (l.map m.app)=m.det*er l:=by
 have hn:0<l.length:=by have:=mt List.length_eq_zero_iff.1 hl; omega
 unfold er
 rw [ys,ys,List.length_map]
 rw [r9 (P':=fun i=>m.app (l.getD i ⟨0,0⟩)) (fun i hi=>by simp [hi]) _ (Nat.le_refl _),Lk m _ _ hn]
 grind
theorem Et (l:List PQ):er (iF l) = -(er l):=by
 unfold er
 rw [ys,ys,jo]
 have hc:=r9 (P:=fun i=>(iF l).getD i ⟨0,0⟩) (P':=fun i=>(fun j=>l.getD j ⟨0,0⟩) ((l.length-i)%l.length)) (n:=l.length) (fun i hi=>by
  have h1:i<(iF l).length:=by rw [jo]; exact hi
  have h2:(l.length-i)%l.length<l.length:=Nat.mod_lt _ (by omega)
  have:=sS l i h1
  simp only [List.getD_eq_getElem?_getD,List.getElem?_eq_getElem h1,List.getElem?_eq_getElem h2,Option.getD_some]
  exact this) l.length (Nat.le_refl _)
 rw [hc,Dg (fun j=>l.getD j ⟨0,0⟩) l.length l.length (Nat.le_refl _),Nat.sub_self]
 simp only [cS]; grind
theorem FB {m:MQ} {l:List PQ} (hm:m.det≠0) (hl:l≠[]) (h:lg l):lg (cW m l):=by
 unfold cW
 by_cases hd:m.det<0
 ·rw [if_pos hd]
  refine ⟨?_,fun hn=>(h.2 (by rw [jo,List.length_map] at hn; exact hn)).flip hd⟩
  rw [Et,yx m hl]
  have:=Rat.mul_pos (show 0 < -m.det by grind) h.1
  grind
 ·rw [if_neg hd]
  refine ⟨?_,fun hn=>(h.2 (by rw [List.length_map] at hn; exact hn)).map (by grind)⟩
  rw [yx m hl]
  exact Rat.mul_pos (by grind) h.1
theorem sW {x:List PQ} (hx:x≠[]) (hl:x.length≤16384) (hs:∀p∈x,p.sz≤60020) (hg:lg x) :
 ∃(a:Rat) (s:Int),ag Tryz.prog 61 [.sl 6 false (x.map pA)] (rA a)∧ag Tryz.prog 34 [rA a] (.int .i64 s)∧¬s≤0∧(x.length≤16→ag Tryz.prog 60 [.sl 6 false (x.map pA)] (.bool true)):=by
 have h0:1≤x.length:=by have:=mt List.length_eq_zero_iff.1 hx; omega
 have hN:x.length*(4*60020+2)≤4294967296:=by have:=Nat.mul_le_mul_right (4*60020+2) hl; omega
 have za:=A_ hs hN
 have k2:=bI (qc (er x)) (c_ (by omega)).ok
 rw [br] at k2
 have:=bQ.2 hg.1
 exact ⟨_,_,pD x 60020 h0 (by omega) hs hN,k2,by omega,fun h=>(hg.2 h).pure (by omega) fun p hp=>by have:=hs p hp; omega⟩
set_option maxHeartbeats 16000000 in
theorem pf (l:List PR) (closed:Bool) (s:SR) (m:MR) (hl:l.length≤9223372036854775807) (hp:∀p∈l,p.Lm) (hs:s.Lm) (hi:s.In 1048576) (hm:m.Lm):ag Tryz.prog 13 [.agg [fK l,.bool closed],s.av,m.av] (.bool true):=by
 obtain ⟨bm,km,kmb⟩:=tq m hm
 obtain ⟨b,kl,kb⟩:=iK l closed s hl hp hs
 have kw:=fP
 have rpr:=jS l
 have sro:=s.ro_cs
 have hsav:s.av = .agg s.cs:=rfl
 have slen:s.cs.length=11:=rfl
 have stk:s.cs.take 11=s.cs:=rfl
 have mro:=m.ro_cs
 have hmav:m.av = .agg m.cs:=rfl
 have mlen:m.cs.length=18:=rfl
 have mtk:m.cs.take 18=m.cs:=rfl
 rw [hmav] at km ⊢
 rw [hsav] at kl ⊢
 refine Pg Tryz.func13 rfl [.tmp 6] rfl (by simp -implicitDefEqProofs [go_sem]) ?_
 cases b with
 | false =>
  clear kb
  generalize fK l=PL at *
  generalize s.cs=S at *
  generalize m.cs=MC at *
  simp -implicitDefEqProofs [go_sem,rpr,sro,slen,stk,mro,mlen]
  refine ah _ kl (by simp [go_sem,rpr,sro]) ?_
  simp -implicitDefEqProofs [go_sem]
  refine ac kw ?_
  simp -implicitDefEqProofs [go_sem]
 | true =>
  have hL:=kb rfl
  clear kb
  have kp:=eE l closed s (by have:=hL.len; omega) hL.pts hL.nigh hi hL.sty
  rw [hsav] at kp
  have hF:=hL.facts closed _ rfl
  generalize c9 (l.map PR.val) closed s=X at *
  have eX:qO X = .tup [yq X.1,.int .i64 X.2]:=rfl
  rw [eX] at kp
  have rX:=qf X.1
  have eP:yq X.1 = .sl 1 false (X.1.map pL):=rfl
  rw [eP] at kp rX
  generalize hS:s.cs=S at *
  generalize fK l=PL at *
  generalize hV:X.1.map pL=V at *
  generalize hMC:m.cs=MC at *
  simp -implicitDefEqProofs [go_sem,rpr,sro,slen,stk,mro,mlen]
  refine ah _ kl (by simp [go_sem,rpr,sro]) ?_
  simp -implicitDefEqProofs [go_sem,mlen,mtk]
  refine ah _ km (by simp [go_sem,mro]) ?_
  cases bm with
  | false =>
   simp -implicitDefEqProofs [go_sem]
   refine ac kw ?_
   simp -implicitDefEqProofs [go_sem]
  | true =>
  have hmi:=kmb rfl
  have hne:∀x∈X.1,x≠[]:=fun x hx=>(hF.good x hx).1
  have hfi:=hF.fine
  have hgo:=fun x hx=>(hF.good x hx).2
  have hXl:=hF.len
  have eR:(X.1.map fun x=>x.map pc).map fK=V:=by
   rw [←hV,List.map_map]
   refine List.map_congr_left fun x hx=>?_
   show AV.sl 6 false ((x.map pc).map PR.av)=_
   rw [KH]; rfl
  have eU:(X.1.map fun x=>x.map pc).map (tw m.val)=X.1.map fun x=>pL (cW m.val x):=by
   rw [List.map_map]
   refine List.map_congr_left fun x hx=>?_
   show slv 6 ((cW m.val ((x.map pc).map PR.val)).map pA)=_
   rw [ub]
   unfold slv
   rw [if_neg]
   ·rfl
   ·rw [←List.length_eq_zero_iff,List.length_map,kz,List.length_eq_zero_iff]; exact hne x hx
  have kq:=lY (X.1.map fun x=>x.map pc) m (by rw [List.length_map]; omega) (fun p hp=>by
   obtain ⟨x,hx,rfl⟩:=List.mem_map.1 hp
   rw [List.length_map]; have:=(hfi x hx).1; omega) (fun p hp q hq=>by
   obtain ⟨x,hx,rfl⟩:=List.mem_map.1 hp
   obtain ⟨y,hy,rfl⟩:=List.mem_map.1 hq
   exact be (by have:=(hfi x hx).2 y hy; omega)) ⟨hmi.a.mono,hmi.b.mono,hmi.c.mono,hmi.d.mono,hmi.e.mono,hmi.f.mono⟩
  have eM:H3 m.val (X.1.map fun x=>x.map pc) = .sl 1 false (X.1.map fun x=>pL (cW m.val x)):=by unfold H3; rw [eU]
  have eR2:I5 (X.1.map fun x=>x.map pc) = .sl 1 false V:=by unfold I5; rw [eR]
  rw [eM,eR2,hmav] at kq
  simp -implicitDefEqProofs [go_sem,slen,stk]
  refine ah _ kp (by simp [go_sem,rpr,sro]) ?_
  simp -implicitDefEqProofs [go_sem]
  by_cases e0:X.2=0
  rotate_left
  ·have v0:V=[]:=by rw [←hV,hF.err e0]; rfl
   simp -implicitDefEqProofs [go_sem,e0,v0]
   refine ac kw ?_
   simp -implicitDefEqProofs [go_sem]
  simp -implicitDefEqProofs [go_sem,e0,mlen,mtk]
  have hVr:roL V:=by rw [←hV]; exact ma _
  obtain ⟨aw,at',A,F,hAF,hA0,hA1,hAr⟩:∃(aw:Nat) (at':Bool) (A:List AV) (F:Int),(if m.val.det=0 then AV.tup [.sl 0 true [],.int .i64 12] else .tup [.sl 1 false (X.1.map fun x=>pL (cW m.val x)),.int .i64 0]) = .tup [.sl aw at' A,.int .i64 F]∧(m.val.det=0→A=[]∧F=12)∧(m.val.det≠0→aw=1∧A=(X.1.map fun x=>pL (cW m.val x))∧F=0)∧roL A:=by
   by_cases d0:m.val.det=0
   ·refine ⟨0,true,[],12,by simp only [d0,if_true],fun _=>⟨rfl,rfl⟩,fun h=>absurd d0 h,trivial⟩
   ·refine ⟨1,false,X.1.map fun x=>pL (cW m.val x),0,by simp only [d0,if_false],fun h=>absurd h d0,fun _=>⟨rfl,rfl,rfl⟩,dq fun x=>iV _⟩
  rw [hAF] at kq
  have hVl:V.length=X.1.length:=by rw [←hV]; simp
  have hVg:∀i (h:i<X.1.length),bU V (i:Int) = .sl 6 false (X.1[i].map pA):=fun i h=>by rw [←hV]; exact dM h
  refine ah _ kq (by simp [go_sem,mro,hVr]) ?_
  simp -implicitDefEqProofs [go_sem]
  refine ap 0 (α:={i:Nat // i≤X.1.length}) (fun i=>[(7,.sl 1 false V),(9,.sl aw at' A),(10,.int .i64 F),(11,.int .i64 i.1)]) (fun _=>[]) (fun i=>X.1.length-i.1) ⟨0,Nat.zero_le _⟩ [] (by simp) (by simp [nm]) (by simp) (by simp -implicitDefEqProofs [go_sem,renL_ro (nm []) _ hVr,cloL_ro (n:=0) _ hVr,renL_ro (nm []) _ hAr,cloL_ro (n:=0) _ hAr]) (by simp -implicitDefEqProofs [go_sem]) fun ⟨i,hi⟩=>?_
  by_cases a:i<X.1.length
  ·have a1:(i:Int)<X.1.length:=by omega
   have es:=wS i (by omega)
   have gi:=hVg i a
   have hx:=List.getElem_mem a
   obtain ⟨ar,sn,k1,k2,k3,k4⟩:=sW (hne _ hx) (hfi _ hx).1 (fun p hp=>by have:=(hfi _ hx).2 p hp; omega) (hgo _ hx)
   have hxl:(X.1[i].map pA).length=X.1[i].length:=by simp
   have hxr:=bK X.1[i]
   generalize X.1[i].map pA=xA at *
   simp only [bA] at k1 k2
   by_cases b:X.1[i].length≤16
   ·have k4:=k4 b
    have b1:(X.1[i].length:Int)≤16:=by omega
    simp -implicitDefEqProofs [go_sem,a,a1,hVl,gi,hxl,b1]
    refine ah _ k4 (by simp [go_sem,hxr]) ?_
    simp -implicitDefEqProofs [go_sem,a,a1,hVl,gi]
    refine ah _ k1 (by simp [go_sem,hxr]) ?_
    simp -implicitDefEqProofs [go_sem]
    refine ac k2 ?_
    simp -implicitDefEqProofs [go_sem,k3,es]
    exact ae ⟨i+1,by omega⟩ (by simp only; omega) [] (by simp) (by simp [nm]) (by simp) (by simp -implicitDefEqProofs [go_sem,renL_ro (nm []) _ hVr,cloL_ro (n:=0) _ hVr,renL_ro (nm []) _ hAr,cloL_ro (n:=0) _ hAr]) (by simp -implicitDefEqProofs [go_sem])
   ·have b1:¬(X.1[i].length:Int)≤16:=by omega
    simp -implicitDefEqProofs [go_sem,a,a1,hVl,gi,hxl,b1]
    refine ah _ k1 (by simp [go_sem,hxr]) ?_
    simp -implicitDefEqProofs [go_sem]
    refine ac k2 ?_
    simp -implicitDefEqProofs [go_sem,k3,es]
    exact ae ⟨i+1,by omega⟩ (by simp only; omega) [] (by simp) (by simp [nm]) (by simp) (by simp -implicitDefEqProofs [go_sem,renL_ro (nm []) _ hVr,cloL_ro (n:=0) _ hVr,renL_ro (nm []) _ hAr,cloL_ro (n:=0) _ hAr]) (by simp -implicitDefEqProofs [go_sem])
  have a1:¬(i:Int)<X.1.length:=by omega
  by_cases d0:m.val.det=0
  ·obtain ⟨A0,F0⟩:=hA0 d0
   simp -implicitDefEqProofs [go_sem,a1,hVl,A0,F0]
   refine ac kw ?_
   simp -implicitDefEqProofs [go_sem]
  obtain ⟨w0,A0,F0⟩:=hA1 d0
  subst w0
  have hAl:A.length=X.1.length:=by rw [A0]; simp
  simp -implicitDefEqProofs [go_sem,a1,hVl,hAl,F0]
  have hAg:∀i (h:i<X.1.length),bU A (i:Int) = .sl 6 false ((cW m.val X.1[i]).map pA):=fun i h=>by rw [A0]; exact dM h
  clear A0 hVg
  refine ap 0 (α:={i:Nat // i≤X.1.length}) (fun i=>[(9,.sl 1 at' A),(12,.int .i64 i.1)]) (fun _=>[]) (fun i=>X.1.length-i.1) ⟨0,Nat.zero_le _⟩ [] (by simp) (by simp [nm]) (by simp) (by simp -implicitDefEqProofs [go_sem,renL_ro (nm []) _ hAr,cloL_ro (n:=0) _ hAr]) (by simp -implicitDefEqProofs [go_sem]) fun ⟨i,hi⟩=>?_
  by_cases a:i<X.1.length
  ·have a1:(i:Int)<X.1.length:=by omega
   have es:=wS i (by omega)
   have gi:=hAg i a
   have hx:=List.getElem_mem a
   have hml:=kz m.val X.1[i]
   obtain ⟨ar,sn,k1,k2,k3,k4⟩:=sW (x:=cW m.val X.1[i]) (fun e=>hne _ hx (List.length_eq_zero_iff.1 (by rw [←hml,e]; rfl))) (by rw [hml]; exact (hfi _ hx).1) (fun p hp=>by
    obtain ⟨q,hq,rfl⟩:=Ai hp
    have:=Gy hmi (by omega) ((hfi _ hx).2 q hq)
    omega) (FB d0 (hne _ hx) (hgo _ hx))
   have hxl:((cW m.val X.1[i]).map pA).length=(cW m.val X.1[i]).length:=by simp
   have hxr:=bK (cW m.val X.1[i])
   generalize (cW m.val X.1[i]).map pA=xA at *
   generalize cW m.val X.1[i]=y at *
   simp only [bA] at k1 k2
   by_cases b:y.length≤16
   ·have k4:=k4 b
    have b1:(y.length:Int)≤16:=by omega
    simp -implicitDefEqProofs [go_sem,a,a1,hAl,gi]
    refine ah _ k1 (by simp [go_sem,hxr]) ?_
    simp -implicitDefEqProofs [go_sem]
    refine ac k2 ?_
    simp -implicitDefEqProofs [go_sem,k3,a,a1,hAl,gi,hxl,b1]
    refine ah _ k4 (by simp [go_sem,hxr]) ?_
    simp -implicitDefEqProofs [go_sem,es]
    exact ae ⟨i+1,by omega⟩ (by simp only; omega) [] (by simp) (by simp [nm]) (by simp) (by simp -implicitDefEqProofs [go_sem,renL_ro (nm []) _ hAr,cloL_ro (n:=0) _ hAr]) (by simp -implicitDefEqProofs [go_sem])
   ·have b1:¬(y.length:Int)≤16:=by omega
    simp -implicitDefEqProofs [go_sem,a,a1,hAl,gi]
    refine ah _ k1 (by simp [go_sem,hxr]) ?_
    simp -implicitDefEqProofs [go_sem]
    refine ac k2 ?_
    simp -implicitDefEqProofs [go_sem,k3,a,a1,hAl,gi,hxl,b1,es]
    exact ae ⟨i+1,by omega⟩ (by simp only; omega) [] (by simp) (by simp [nm]) (by simp) (by simp -implicitDefEqProofs [go_sem,renL_ro (nm []) _ hAr,cloL_ro (n:=0) _ hAr]) (by simp -implicitDefEqProofs [go_sem])
  have a1:¬(i:Int)<X.1.length:=by omega
  simp -implicitDefEqProofs [go_sem,a1,hAl]
  refine ac kw ?_
  simp -implicitDefEqProofs [go_sem]
end Go.Proofs.YtdnmfaljidjijaaGreat
