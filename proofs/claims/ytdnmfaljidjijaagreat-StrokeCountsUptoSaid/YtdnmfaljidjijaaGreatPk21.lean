import Derived.Test.YtdnmfaljidjijaaGreatPk05
import Derived.Test.YtdnmfaljidjijaaGreatPk06
import Derived.Test.YtdnmfaljidjijaaGreatPk07
import Derived.Test.YtdnmfaljidjijaaGreatPk08
import Derived.Test.YtdnmfaljidjijaaGreatPk09
import Derived.Test.YtdnmfaljidjijaaGreatPk10
import Derived.Test.YtdnmfaljidjijaaGreatPk15
namespace Go.Proofs.YtdnmfaljidjijaaGreat
open Go Go.Proofs
set_option linter.unusedSimpArgs false
set_option linter.unusedVariables false
set_option maxRecDepth 20000
def fF:List PQ→List PQ
 | []=>[]
 | a::l=>a::a::fF l
theorem lB (a:PQ):∀l,ef a (fF l)=ef a l
 | []=>rfl
 | b::l=>by
  simp only [fF,ef]
  by_cases h:b=a
  ·subst h
   simp only [if_true]
   exact lB b l
  ·simp only [h,if_false,if_true]
   rw [lB b l]
theorem BD (l:List PQ):bd (fF l)=bd l:=by
 cases l with
 | nil=>rfl
 | cons a l=>simp only [fF,bd,ef,if_true]; rw [lB]
def pI (L:List (List PQ×Int)):Nat:=(L.filter fun y=>decide (y.1≠[])).length
theorem wW (a b:List (List PQ×Int)):pI (a++b)=pI a+pI b:=by unfold pI; rw [List.filter_append,List.length_append]
theorem Lq (a:List (List PQ×Int)):pI a≤a.length:=List.length_filter_le _ _
theorem rz {a:List (List PQ×Int)} (h:∀y∈a,y.1≠[]):pI a=a.length:=by
 unfold pI
 rw [List.filter_eq_self.2 fun y hy=>by simpa using h y hy]
theorem yI {a:List (List PQ×Int)} (h:∀y∈a,y.1=[]):pI a=0:=by
 unfold pI
 rw [List.filter_eq_nil_iff.2 fun y hy=>by simpa using h y hy]
 rfl
theorem vg:∀(L:List (List PQ×Int)) (m:List (List PQ)),aD L=(m,0)→m.length=pI L
 | [],m,h=>by
  injection h with h1 _
  subst h1; rfl
 | (l,e)::r,m,h=>by
  unfold aD at h
  split at h
  ·rename_i he; injection h with h1 h2; exact absurd h2 he
  split at h
  ·rename_i h2; injection h with h1 h3; exact absurd h3 h2
  rename_i h2
  have h2:(aD r).2=0:=Classical.not_not.1 h2
  have ih:=vg r (aD r).1 (by rw [←h2])
  injection h with h1 _
  have e:(l,e)::r=[(l,e)]++r:=rfl
  rw [e,wW,←ih,←h1]
  by_cases hl:l=[]
  ·rw [if_pos hl,yI (fun y hy=>by rw [List.mem_singleton] at hy; rw [hy]; exact hl)]; omega
  ·rw [if_neg hl,rz (fun y hy=>by rw [List.mem_singleton] at hy; rw [hy]; exact hl)]; simp only [List.length_cons,List.length_nil]; omega
theorem Iv {c:PQ} {h tol:Rat} {l:List PQ} (hr:mV c h tol=(l,0)):l≠[]:=by
 rcases ig c h tol with ⟨_,k2⟩|⟨j,k1,h0,_,_,k4⟩
 ·rw [hr] at k2; exact absurd rfl k2
 ·rw [k4] at hr
  injection hr with h1 h3
  subst h1
  intro e
  have hlen:(dL c h (2 ^ j) 4).length=4*2 ^ j:=da ..
  have hp1:1≤2 ^ j:=Nat.pow_pos (by omega)
  rw [e] at hlen
  simp only [List.length_nil] at hlen
  omega
def j4 (n:Nat) (closed:Bool):Nat:=if closed then n else n-2
def sL (closed:Bool) (cap:Int):Nat:=if closed then 0 else if cap=0 then 0 else 2
theorem En {c:List PQ} {closed:Bool} {s:SR} {m:List (List PQ)} (h:aD (iz c closed s)=(m,0)) (hn:2≤c.length) (hz:∀p∈c,p.sz≤1) (hs:s.Sml) :
 aG c.length closed+sL closed s.cap≤m.length∧m.length≤aG c.length closed+j4 c.length closed+sL closed s.cap∧(s.join=2→m.length=aG c.length closed+j4 c.length closed+sL closed s.cap):=by
 have hc:c≠[]:=fun e=>by rw [e] at hn; simp at hn
 have z:=fun i=>hz _ (d7 hc i)
 obtain ⟨_,hok,_⟩:=lJ _ _ h
 have hcnt:=vg _ _ h
 unfold iz at hcnt hok
 rw [if_neg (by omega)] at hcnt hok
 rw [wW,wW] at hcnt
 have b1:pI (ir c closed s)=aG c.length closed:=by
  rw [rz]
  ·unfold ir; simp
  ·intro y hy
   have h0:=(hok y (List.mem_append.2 (.inl hy))).1
   obtain ⟨i,_,rfl⟩:=List.mem_map.1 hy
   rcases kM (l:=(fk (aK c i) (aK c (i+1)) s).1) (e:=(fk (aK c i) (aK c (i+1)) s).2) rfl (z i) (z (i+1)) hs with ⟨_,he⟩|⟨n,e,_⟩
   ·exact absurd h0 he
   ·rw [e]; exact pF _ _ _
 have jl:(jP c closed s).length=j4 c.length closed:=by
  unfold jP aG j4
  rw [List.length_map,List.length_drop,List.length_range]
  cases closed
  ·simp only [Bool.false_eq_true,if_false]; omega
  ·simp only [if_true]; omega
 have j1:=Lq (jP c closed s)
 have j2:s.join=2→pI (jP c closed s)=j4 c.length closed:=fun hj=>by
  rw [←jl]
  refine rz fun y hy=>?_
  have h0:=(hok y (List.mem_append.2 (.inr (List.mem_append.2 (.inl hy))))).1
  obtain ⟨i,_,rfl⟩:=List.mem_map.1 hy
  generalize (aK c i).sub (aK c (i+c.length-1))=u at *
  generalize (aK c (i+1)).sub (aK c i)=v at *
  unfold dl at h0 ⊢
  by_cases q1:u=⟨0,0⟩∨v=⟨0,0⟩
  ·rw [if_pos q1] at h0; exact absurd h0 (by decide)
  ·rw [if_neg q1] at h0 ⊢
   by_cases q2:uq s
   ·rw [if_neg (fun hh=>hh q2),if_pos hj] at h0 ⊢
    exact Iv (c:=aK c i) (h:=s.h) (tol:=s.tol.val) (by rw [←h0])
   ·rw [if_pos q2] at h0; exact absurd h0 (by decide)
 have e1:pI (lF c closed s)=sL closed s.cap:=by
  unfold sL
  cases closed
  ·simp only [Bool.false_eq_true,if_false]
   have hE:lF c false s=[gX (aK c 0) ((aK c 0).sub (aK c 1)) s,gX (aK c (c.length-1)) ((aK c (c.length-1)).sub (aK c (c.length-2))) s]:=rfl
   have z1:=PQ.sz_sub (aK c 0) (aK c 1)
   have z2:=PQ.sz_sub (aK c (c.length-1)) (aK c (c.length-2))
   have y0:=z 0
   have y1:=z 1
   have y2:=z (c.length-1)
   have y3:=z (c.length-2)
   have key:∀p u,p.sz≤1→u.sz≤3→gX p u s∈lF c false s→(s.cap=0→(gX p u s).1=[])∧(s.cap≠0→(gX p u s).1≠[]):=fun p u hp hu hm=>by
    have h0:=(hok _ (List.mem_append.2 (.inr (List.mem_append.2 (.inr hm))))).1
    rcases vc (l:=(gX p u s).1) (e:=(gX p u s).2) rfl hp hu hs with ⟨_,he⟩|⟨_,_,_,⟨hc,hn⟩|⟨hc,hr⟩|⟨hc,n,hn,_⟩⟩
    ·exact absurd h0 he
    ·exact ⟨fun _=>hn,fun h=>absurd hc h⟩
    ·exact ⟨fun h=>by omega,fun _=>Iv hr⟩
    ·exact ⟨fun h=>by omega,fun _=>by rw [hn]; exact pF _ _ _⟩
   have k1:=key (aK c 0) ((aK c 0).sub (aK c 1)) y0 (by omega) (by rw [hE]; exact List.mem_cons_self)
   have k2:=key (aK c (c.length-1)) ((aK c (c.length-1)).sub (aK c (c.length-2))) y2 (by omega) (by rw [hE]; exact List.mem_cons_of_mem _ List.mem_cons_self)
   by_cases hc0:s.cap=0
   ·rw [if_pos hc0,hE]
    refine yI fun y hy=>?_
    simp only [List.mem_cons,List.not_mem_nil,or_false] at hy
    rcases hy with rfl|rfl
    ·exact k1.1 hc0
    ·exact k2.1 hc0
   ·rw [if_neg hc0,hE,rz]
    ·rfl
    ·intro y hy
     simp only [List.mem_cons,List.not_mem_nil,or_false] at hy
     rcases hy with rfl|rfl
     ·exact k1.2 hc0
     ·exact k2.2 hc0
  ·rfl
 refine ⟨by omega,by omega,fun hj=>?_⟩
 have:=j2 hj
 omega
theorem uT {R:PQ→PQ→Prop} (hR:∀x,R x x):∀(a:PQ) (l:List PQ),Gn R a l→Gn R a (fF l)
 | a,[],_=>trivial
 | a,b::l,⟨h1,h2⟩=>⟨h1,hR b,uT hR b l h2⟩
theorem tj:∀(a:PQ) (l:List PQ),(fF l).getLastD a=l.getLastD a
 | a,[]=>rfl
 | a,b::l=>by simp only [fF,List.getLastD_cons]; exact tj b l
theorem EN {R:PQ→PQ→Prop} (hR:∀x,R x x) {l:List PQ} (h:yn R l):yn R (fF l):=by
 cases l with
 | nil=>trivial
 | cons a l=>exact ⟨⟨hR a,uT hR a l h.1⟩,by rw [List.getLastD_cons,tj]; exact h.2⟩
theorem FF (x:PQ):qI x x:=by
 have e:x.sub x=⟨0,0⟩:=PQ.ext (by unfold PQ.sub; simp only; grind) (by unfold PQ.sub; simp only; grind)
 have z0:sz (0:Rat)≤1:=by rw [show sz 0=1 from by have:=nX 0; simpa [oP] using this]; omega
 unfold qI
 rw [e]
 exact Nat.max_le.2 ⟨z0,z0⟩
theorem wB:∀(f g:Nat) (l:List PQ),l.length≤f→l.length≤g→gM f l=gM g l
 | 0,g,l,h,_=>by
  have:=List.length_eq_zero_iff.1 (Nat.le_zero.1 h)
  subst this
  cases g<;>rfl
 | f+1,0,l,_,h=>by
  have:=List.length_eq_zero_iff.1 (Nat.le_zero.1 h)
  subst this
  rfl
 | f+1,g+1,l,h1,h2=>by
  unfold gM
  split
  ·exact wB f g _ (by rw [List.length_dropLast]; omega) (by rw [List.length_dropLast]; omega)
  ·rfl
theorem wC:∀l:List PQ,(fF l).length=2*l.length
 | []=>rfl
 | a::l=>by simp only [fF,List.length_cons,wC l]; omega
theorem yF (l:List PQ) (closed:Bool):bp (fF l) closed=bp l closed:=by
 unfold bp
 rw [BD]
 have:=j3 l
 split
 ·exact wB _ _ _ (by rw [wC]; omega) this
 ·rfl
theorem yh (l:List PQ) (closed:Bool) (s:SR):c9 (fF l) closed s=c9 l closed s:=by
 unfold c9
 rw [yF]
def cC {α:Type}:List α→List α
 | []=>[]
 | a::l=>a::a::cC l
theorem tZ {α:Type}:∀(l m:List α),cC (l++m)=cC l++cC m
 | [],m=>rfl
 | a::l,m=>by simp only [List.cons_append,cC,tZ l m]
theorem ld {α β:Type} (g:α→β):∀l:List α,(cC l).map g=cC (l.map g)
 | []=>rfl
 | a::l=>by simp only [cC,List.map_cons,ld g l]
theorem t_:∀l:List PQ,cC l=fF l
 | []=>rfl
 | a::l=>by simp only [cC,fF,t_ l]
theorem nZ {α:Type} {x:α}:∀ {l:List α},x∈cC l→x∈l
 | [],h=>h
 | a::l,h=>by
  simp only [cC,List.mem_cons] at h ⊢
  rcases h with h|h|h
  ·exact .inl h
  ·exact .inl h
  ·exact .inr (nZ h)
theorem nY {α:Type}:∀l:List α,(cC l).length=2*l.length
 | []=>rfl
 | a::l=>by simp only [cC,List.length_cons,nY l]; omega
theorem LJ {P:Program} {z:Bool} {ne:Nat} {Q:AEx→St→Prop} {k:List Itm} {t:Nat→AV} {f:Nat→BS} {n:Nat} {g:FuncId} {args:List AV} {d:Option Tmp} (r:AV) (S:(Nat→BS)→Prop) (h1:∀K:AV→(Nat→BS)→Nat→Prop,(∀f',S f'→K r f' n)→CA P g args f n K) (h2:∀f',S f'→go P z ne Q k (aX t d r) f' n):Bo P z ne Q g args d k t f n:=h1 _ h2
set_option maxHeartbeats 16000000 in
theorem ph (l:List PR) (closed:Bool) (s:SR) (hl:l.length≤9223372036854775807) (hp:∀p∈l,p.Lm) (hs:s.Lm) (hi:s.In 1048576):ag Tryz.prog 10 [.agg [fK l,.bool closed],s.av] (.bool true):=by
 obtain ⟨b,kl,kb⟩:=iK l closed s hl hp hs
 have kw:=fP
 have rpr:=jS l
 have sro:=s.ro_cs
 have hsav:s.av = .agg s.cs:=rfl
 have slen:s.cs.length=11:=rfl
 have stk:s.cs.take 11=s.cs:=rfl
 rw [hsav] at kl ⊢
 refine Pg Tryz.func10 rfl [.tmp 4] rfl (by simp -implicitDefEqProofs [go_sem]) ?_
 cases b with
 | false =>
  clear kb
  generalize fK l=PL at *
  generalize s.cs=S at *
  simp -implicitDefEqProofs [go_sem,rpr,sro,slen,stk]
  refine ah _ kl (by simp [go_sem,rpr,sro]) ?_
  simp -implicitDefEqProofs [go_sem]
  refine ac kw ?_
  simp -implicitDefEqProofs [go_sem]
 | true =>
  have hL:=kb rfl
  clear kb
  have kp:=eE l closed s (by have:=hL.len; omega) hL.pts hL.nigh hi hL.sty
  rw [hsav] at kp
  have kp2:=eE (cC l) closed s (by rw [nY]; have:=hL.len; omega) (fun p hp=>hL.pts p (nZ hp)) (by rw [ld,t_]; exact EN FF hL.nigh) hi (fun hn=>hL.sty fun e=>hn (by rw [e]; rfl))
  rw [ld,t_,yh,hsav] at kp2
  have ki:=kR l closed (by have:=hL.len; omega) fun p hp=>(hL.pts p hp).mono
  have hcz:∀p∈l.map PR.val,p.sz≤4294967296:=fun p hp=>by
   obtain ⟨q,hq,rfl⟩:=List.mem_map.1 hp
   have:=(hL.pts q hq).sz
   omega
  have kc:=jF (l.map PR.val) closed (by rw [List.length_map]; have:=hL.len; omega) hcz
  have hF:=hL.facts closed _ rfl
  have hz:∀p∈bp (l.map PR.val) closed,p.sz≤1:=fun p hp=>by
   obtain ⟨q,hq,rfl⟩:=List.mem_map.1 (gO _ _ p hp)
   exact (hL.pts q hq).sz
  have hcl:=ja (l.map PR.val) closed
  rw [List.length_map] at hcl
  have hl8:=hL.len
  generalize bp (l.map PR.val) closed=C at *
  generalize c9 (l.map PR.val) closed s=X at *
  generalize l.map PR.val=Z at *
  have g1:=bI s.width hi.width.sm.ok
  have z1:=bR (x:=s.width.val)
  have rZ:=jt Z closed
  have rEC:=jt C closed
  have eX:qO X = .tup [yq X.1,.int .i64 X.2]:=rfl
  rw [eX] at kp kp2
  have rX:=qf X.1
  have eCl:yT C closed = .agg [.sl 6 false (C.map eA),.bool closed]:=rfl
  rw [eCl] at kc rEC
  have eP:yq X.1 = .sl 1 false (X.1.map pL):=rfl
  rw [eP] at kp kp2 rX
  have stk3:s.cs.take 3=s.width.cells:=rfl
  have hwav:s.width.av = .agg s.width.cells:=rfl
  have wro:roL s.width.cells:=by have:=wc s.width; rw [hwav] at this; simpa only [ro] using this
  rw [hwav] at g1
  generalize hS:s.cs=S at *
  generalize hW:s.width.cells=W at *
  have kp2':=kp2
  have ePL:fK l = .sl 6 false (l.map PR.av):=rfl
  have ePL2:fK (cC l) = .sl 6 false (cC (l.map PR.av)):=by unfold fK; rw [ld]
  rw [ePL2] at kp2
  rw [ePL] at kp kl ki rpr ⊢
  have hg0:∀i (h:i<l.length),bU (l.map PR.av) (i:Int) = .agg l[i].cs:=fun i h=>dM h
  have hUl:(l.map PR.av).length=l.length:=by simp
  have hUr:=iR l
  have hUg:∀i (h:i<l.length),(l.map PR.av).take (i+1)=(l.map PR.av).take i++[.agg l[i].cs]:=fun i h=>by
   rw [List.take_succ_eq_append_getElem (by rw [hUl]; exact h),List.getElem_map]; rfl
  generalize l.map PR.av=U at *
  generalize yT Z closed=EZ at *
  generalize hV:X.1.map pL=V at *
  simp -implicitDefEqProofs [go_sem,hUr,sro,slen,stk]
  refine ah _ kl (by simp [go_sem,hUr,sro]) ?_
  simp -implicitDefEqProofs [go_sem,slen,stk]
  refine ah _ kp (by simp [go_sem,hUr,sro]) ?_
  simp -implicitDefEqProofs [go_sem]
  have hVr:roL V:=by simpa only [ro] using rX
  have hTr:∀i,roL (cC (U.take i)):=fun i=>gu.2 fun a ha=>gu.1 hUr a (List.mem_of_mem_take (nZ ha))
  refine ap 4 (α:={i:Nat // i≤l.length}) (fun i=>[(2,.ptr 0 0 0),(3,.ptr 1 0 0),(5,.sl 1 false V),(6,.int .i64 X.2),(7,.ptr 2 0 0),(8,.int .i64 i.1)]) (fun i=>[(0,.live 2 [.agg [.sl 6 false U,.bool closed]]),(1,.live 11 [.agg S]),(2,.live 2 [.agg [di 6 3 (cC (U.take i.1)),.bool closed]])]++cR 6 3 (cC (U.take i.1))) (fun i=>l.length-i.1) ⟨0,Nat.zero_le _⟩ [] (by simp) (fun _ _ _ _ h=>h) (by simp) (by simp -implicitDefEqProofs [go_sem,renL_ro (nm []) _ hVr,cloL_ro (n:=4) _ hVr]) (by simp -implicitDefEqProofs [go_sem,cC,renL_ro (nm []) _ hUr,cloL_ro (n:=4) _ hUr,renL_ro (nm []) _ sro,cloL_ro (n:=4) _ sro]) fun ⟨i,hi⟩=>?_
  have hTl:(cC (U.take i)).length=2*i:=by rw [nY,List.length_take]; omega
  have hTi:=hTr i
  by_cases h:i<l.length
  ·have a1:(i:Int)<l.length:=by omega
   have hg:=hg0 i h
   have es:=wS i (by omega)
   have hst:cC (U.take (i+1))=cC (U.take i)++[.agg l[i].cs,.agg l[i].cs]:=by rw [hUg i h,tZ]; rfl
   have hr1:=hTr (i+1)
   have u6:l[i].cs.length=6:=rfl
   have u7:l[i].cs.take 6=l[i].cs:=rfl
   have u9:=l[i].ro_cs
   have hn1:cC (U.take (i+1))≠[]:=by rw [hst]; simp
   have hl1:(cC (U.take (i+1))).length=(cC (U.take i)).length+2:=by rw [hst]; simp
   rw [hst] at hr1
   generalize l[i].cs=x at *
   simp -implicitDefEqProofs [go_sem,a1,h,hUl,hg,u6,u7,hTl]
   refine aI (.inl rfl) (by omega) (by omega) (by simp -implicitDefEqProofs [go_sem]) (by simp [hTl]<;>omega) (fun hb=>by simp -implicitDefEqProofs [go_sem,aC hb]) ?_
   simp -implicitDefEqProofs [go_sem,es]
   exact ae ⟨i+1,h⟩ (by simp only; omega) [(3,17)] (by simp) (by simp only [aC hn1]; simp [nm]) (by simp) (by simp -implicitDefEqProofs [go_sem,renL_ro (nm [(3,17)]) _ hVr,cloL_ro (n:=4) _ hVr]) (by simp only [aC hn1,aV hn1,hl1]; rw [hst]; simp -implicitDefEqProofs [go_sem,hTl,renL_ro (nm [(3,17)]) _ hr1,cloL_ro (n:=4) _ hr1,renL_ro (nm [(3,17)]) _ hUr,cloL_ro (n:=4) _ hUr,renL_ro (nm [(3,17)]) _ sro,cloL_ro (n:=4) _ sro])
  ·have hii:i=l.length:=by omega
   have a1:¬(i:Int)<l.length:=by omega
   have hTU:U.take i=U:=List.take_of_length_le (by omega)
   rw [hTU] at hTi hTl ⊢
   generalize hT:cC U=T at *
   have ksame:=qh X.1 (by have:=hF.len; omega) (fun x hx=>⟨by have:=(hF.fine x hx).1; omega,fun p hp=>by have:=(hF.fine x hx).2 p hp; omega⟩)
   rw [hV] at ksame
   have hcnt:=fun (h0:X.2=0) (hn:2≤C.length) (hw:0<s.width.val)=>En (hF.ok h0 (fun e=>by rw [e] at hn; simp at hn) hw).2 hn hz (hF.ok h0 (fun e=>by rw [e] at hn; simp at hn) hw).1
   simp -implicitDefEqProofs [go_sem,a1,hUl,slen,stk]
   refine LJ (.tup [.sl 1 false V,.int .i64 X.2]) (fun f'=>f' 0 = .live 2 [.agg [.sl 6 false U,.bool closed]]∧f' 1 = .live 11 [.agg S]) (fun K hK=>?_) fun f' ⟨f0,f1⟩=>?_
   ·by_cases hTn:T=[]
    ·subst hTn
     refine CA.of_pure_ro (kp2.args (.cons (Wk.agg (.cons (Wk.nil 0 6 true) (.cons (Wk.refl _) .nil))) (.cons (Wk.refl _) .nil))) (by simp -implicitDefEqProofs [go_sem,sro]) (hK _ ⟨by simp -implicitDefEqProofs [go_sem],by simp -implicitDefEqProofs [go_sem]⟩)
    ·refine CA.of_pure_dead [3] kp2 ?_ ?_ ?_ ?_ (hK _ ⟨?_,?_⟩)
     ·simp -implicitDefEqProofs [go_sem,aV hTn,aC hTn,viewL_ro _ _ sro]
     ·simp -implicitDefEqProofs [go_sem,hTi,sro]
     ·simp -implicitDefEqProofs [go_sem,aV hTn,aC hTn,fitsL_ro _ _ sro,fitsL_ro _ _ hTi]
     ·simp -implicitDefEqProofs [go_sem,aC hTn]
     ·simp -implicitDefEqProofs [go_sem,aC hTn]
     ·simp -implicitDefEqProofs [go_sem,aC hTn]
   ·have stk3':S.take 3=W:=by rw [←hS,←hW]; rfl
    have s6:S[6]'(by omega) = .int .i64 s.cap:=by subst hS; rfl
    have s7:S[7]'(by omega) = .int .i64 s.join:=by subst hS; rfl
    simp -implicitDefEqProofs [go_sem]
    refine ah _ ksame (by simp [go_sem,hVr]) ?_
    simp -implicitDefEqProofs [go_sem,f0]
    refine ah _ ki (by simp [go_sem,hUr]) ?_
    simp -implicitDefEqProofs [go_sem]
    refine ah _ kc (by simp [go_sem,rZ]) ?_
    have hCl:(C.map eA).length=C.length:=by simp
    have hVl:V.length=X.1.length:=by rw [←hV]; simp
    have hX0:X.2≠0→V=[]:=fun h=>by rw [←hV,hF.err h]; rfl
    have hXl:=hF.len
    have zz1:(s.width.val≤0)=(aM s.width.val≤0):=propext z1.symm
    generalize C.map eA=CA at *
    clear kl kp kp2 kp2' ksame hF
    simp -implicitDefEqProofs [go_sem,f1,slen,stk3',hCl]
    by_cases e0:X.2=0
    rotate_left
    ·have v0:=hX0 e0
     simp -implicitDefEqProofs [go_sem,e0,v0]
     refine ac kw ?_
     simp -implicitDefEqProofs [go_sem]
    simp -implicitDefEqProofs [go_sem,e0]
    refine ah _ g1 (by simp [go_sem,wro]) ?_
    by_cases w0:aM s.width.val≤0
    ·simp -implicitDefEqProofs [go_sem,w0,e0]
     refine ac kw ?_
     simp -implicitDefEqProofs [go_sem]
    by_cases c2:C.length<2
    ·have c3:(C.length:Int)<2:=by omega
     simp -implicitDefEqProofs [go_sem,w0,c3,e0]
     refine ac kw ?_
     simp -implicitDefEqProofs [go_sem]
    have c3:¬(C.length:Int)<2:=by omega
    have hw:0<s.width.val:=Rat.not_le.1 fun h=>w0 (z1.2 h)
    obtain ⟨n1,n2,n3⟩:=hcnt e0 (by omega) hw
    have d1:IntKind.i64.wrap ((C.length:Int)-1)=(C.length:Int)-1:=bS (by omega)
    have d2:IntKind.i64.wrap ((C.length:Int)-2)=(C.length:Int)-2:=bS (by omega)
    have d3:IntKind.i64.wrap (C.length:Int)=C.length:=bS (by omega)
    unfold aG sL at n1
    unfold aG j4 sL at n2 n3
    cases closed with
    | true =>
     simp only [if_true] at n1 n2 n3
     have d4:IntKind.i64.wrap ((C.length:Int)+C.length)=(C.length:Int)+C.length:=bS (by omega)
     have m1:(C.length:Int)≤X.1.length:=by omega
     have m2:(X.1.length:Int)≤(C.length:Int)+C.length:=by omega
     by_cases j2:s.join=2
     ·have m3:(X.1.length:Int)=(C.length:Int)+C.length:=by have:=n3 j2; omega
      simp -implicitDefEqProofs [go_sem,w0,c3,f1,slen,s6,s7,d1,d2,d3,d4,hVl,m1,m2,j2,eq_true m3]
      refine ac kw ?_
      simp -implicitDefEqProofs [go_sem]
     ·simp -implicitDefEqProofs [go_sem,w0,c3,f1,slen,s6,s7,d1,d2,d3,d4,hVl,m1,m2,j2]
      refine ac kw ?_
      simp -implicitDefEqProofs [go_sem]
    | false =>
     simp only [Bool.false_eq_true,if_false] at n1 n2 n3
     have d4:IntKind.i64.wrap ((C.length:Int)-1+(C.length-2))=(C.length:Int)-1+(C.length-2):=bS (by omega)
     have d5:IntKind.i64.wrap ((C.length:Int)-1+2)=(C.length:Int)-1+2:=bS (by omega)
     have d6:IntKind.i64.wrap ((C.length:Int)-1+(C.length-2)+2)=(C.length:Int)-1+(C.length-2)+2:=bS (by omega)
     by_cases c0:s.cap=0
     ·rw [if_pos c0] at n1 n2 n3
      have m1:(C.length:Int)-1≤X.1.length:=by omega
      have m2:(X.1.length:Int)≤(C.length:Int)-1+(C.length-2):=by omega
      by_cases j2:s.join=2
      ·have m3:(X.1.length:Int)=(C.length:Int)-1+(C.length-2):=by have:=n3 j2; omega
       simp -implicitDefEqProofs [go_sem,w0,c3,f1,slen,s6,s7,d1,d2,d3,d4,hVl,c0,m1,m2,j2,eq_true m3]
       refine ac kw ?_
       simp -implicitDefEqProofs [go_sem]
      ·simp -implicitDefEqProofs [go_sem,w0,c3,f1,slen,s6,s7,d1,d2,d3,d4,hVl,c0,m1,m2,j2]
       refine ac kw ?_
       simp -implicitDefEqProofs [go_sem]
     ·rw [if_neg c0] at n1 n2 n3
      have m1:(C.length:Int)-1+2≤X.1.length:=by omega
      have m2:(X.1.length:Int)≤(C.length:Int)-1+(C.length-2)+2:=by omega
      by_cases j2:s.join=2
      ·have m3:(X.1.length:Int)=(C.length:Int)-1+(C.length-2)+2:=by have:=n3 j2; omega
       simp -implicitDefEqProofs [go_sem,w0,c3,f1,slen,s6,s7,d1,d2,d3,d4,d5,d6,hVl,c0,m1,m2,j2,eq_true m3]
       refine ac kw ?_
       simp -implicitDefEqProofs [go_sem]
      ·simp -implicitDefEqProofs [go_sem,w0,c3,f1,slen,s6,s7,d1,d2,d3,d4,d5,d6,hVl,c0,m1,m2,j2]
       refine ac kw ?_
       simp -implicitDefEqProofs [go_sem]
end Go.Proofs.YtdnmfaljidjijaaGreat
