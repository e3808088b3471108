import Derived.Test.YtdnmfaljidjijaaGreatPk05
import Derived.ProofKit
import Derived.ChangeSlices
import Derived.OpenShut
import Derived.Test.YtdnmfaljidjijaaGreatRows
namespace Go.Proofs.YtdnmfaljidjijaaGreat
set_option maxHeartbeats 32000000
open Go Go.Proofs
open Go.ChangeShapes
set_option linter.unusedSimpArgs false
set_option linter.unusedVariables false
section
variable {H:Type} {enc:TypeId×Value→H} {P:Program} {w:World}
theorem AA {t:TypeId} (ht:P.underlying t=some .bool):jW enc P w t fun l=>∃b,l=[.bool b]:=fun fuel cs x h=>by
 obtain ⟨b,rfl,_⟩:=DataW.trod_bool ht h
 exact ⟨_,⟨b,rfl⟩,fun cx _ _=>by simp [Rl,Rv],by simp [Value.oneCell']⟩
theorem wB {v:Value} (h:v.oneCell'=true):v.cells = #[v]:=by cases v<;>simp_all [Value.oneCell',Value.cells]
theorem nS {t e:TypeId} {Q:List AV→Prop} {R:AV→Prop} (hQ:∀l,Q l→∃a,l=[a]∧R a) (ht:P.underlying t=some (.slice e)) (hsz:P.cellsOf e=1) (he:jW enc P w e Q) :
 jW enc P w t fun l=>∃L:List AV,l=[.sl 1 false L]∧L.length≤9223372036854775807∧∀a∈L,R a :=
 il ht hsz (by omega) he fun l cs hq hl h1=>by
  obtain ⟨a,rfl,hr⟩:=hQ l hq
  match cs,hl with
  | [v],_ =>
   have hv:=h1 v (by simp)
   refine ⟨a,hr,v,by rw [wB hv],.inr hv,fun cx hx=>?_⟩
   simp only [Rl] at hx
   obtain ⟨_,_,e,h,_⟩:=hx
   injection e with e1 _
   rw [e1]; exact h
theorem rW {t:TypeId} {f0 f1:Field} {Q0 Q1:List AV→Prop} {n0 n1:Nat} (ht:P.underlying t=some (.struct #[f0,f1])) (h0:jW enc P w f0.type Q0) (h1:jW enc P w f1.type Q1)
 (hc:(P.cellsOf f0.type,P.cellsOf f1.type,P.cellsOf t,f0.offset,f1.offset)=(n0,n1,n0+n1,0,n0)):jW enc P w t fun l=>∃l0 l1,l=l0++l1∧Q0 l0∧Q1 l1:=fun fuel cs x h=>by
 simp only [Prod.mk.injEq] at hc
 obtain ⟨c0,c1,c2,c3,c4⟩:=hc
 obtain ⟨y0,y1,n,_,hl,k0,k1⟩:=trod_struct2 ht h
 rw [c3,c0,List.drop_zero] at k0
 rw [c4,c1] at k1
 obtain ⟨l0,a1,a2,a3⟩:=h0 _ _ _ k0
 obtain ⟨l1,b1,b2,b3⟩:=h1 _ _ _ k1
 have e:cs=cs.take n0++(cs.drop n0).take n1:=by
  rw [List.take_of_length_le (l:=cs.drop n0) (by simp; omega),List.take_append_drop]
 refine ⟨l0++l1,⟨l0,l1,rfl,a1,b1⟩,fun cx e1 e2=>?_,fun u hu=>?_⟩
 ·rw [e]; exact (a2 cx e1 e2).append (b2 cx e1 e2)
 ·rw [e] at hu
  rcases List.mem_append.1 hu with h|h
  ·exact a3 u h
  ·exact b3 u h
theorem vE {t t0 t1:TypeId} {Q0 Q1:List AV→Prop} {n0 n1:Nat} (ht:CY P t=some [(0,t0),(n0,t1)]) (hc:(P.cellsOf t0,P.cellsOf t1,P.cellsOf t)=(n0,n1,n0+n1))
 (h0:jW enc P w t0 Q0) (h1:jW enc P w t1 Q1):jW enc P w t fun l=>∃l0 l1,l=l0++l1∧Q0 l0∧Q1 l1:=by
 obtain ⟨⟨l⟩,k1,k2⟩:=o6 ht
 obtain ⟨f0,f1,rfl⟩:∃f0 f1,l=[f0,f1]:=by
  have hl:l.length=2:=by simpa using congrArg List.length k2
  match l,hl with
  | [f0,f1],_=>exact ⟨f0,f1,rfl⟩
 ·simp only [List.map_cons,List.map_nil,List.cons.injEq,Prod.mk.injEq,and_true] at k2
  obtain ⟨⟨a1,a2⟩,b1,b2⟩:=k2
  subst a2 b2
  simp only [Prod.mk.injEq] at hc
  exact rW k1 h0 h1 (by rw [hc.1,hc.2.1,hc.2.2,a1,b1])
end
theorem Ap {L:List AV} (h:∀a∈L,∃n:Int,a = .int .u64 n∧(Lit.int .u64 n).wf=true):∃p:List Nat,aT 18446744073709551616 p∧L=uA .u64 p:=by
 induction L with
 | nil=>exact ⟨[],by simp [aT],rfl⟩
 | cons a L ih =>
  obtain ⟨p,h1,rfl⟩:=ih fun x hx=>h x (by simp [hx])
  obtain ⟨n,rfl,hw⟩:=h a (by simp)
  simp only [Lit.wf,Bool.and_eq_true,decide_eq_true_eq] at hw
  have e1:IntKind.u64.min=0:=by decide
  have e2:IntKind.u64.max=18446744073709551615:=by decide
  rw [e1,e2] at hw
  refine ⟨n.toNat::p,fun x hx=>?_,?_⟩
  ·rcases List.mem_cons.1 hx with rfl|hx
   ·omega
   ·exact h1 x hx
  ·simp only [uA,List.map_cons]
   rw [show ((n.toNat:Nat):Int)=n by omega]
section
variable {H:Type} {enc:TypeId×Value→H} {w:World}
theorem vD:jW enc Tryz.prog w 23 fun l=>∃p,aT 18446744073709551616 p∧l=[nA p] :=
 (nS (R:=fun a=>∃n:Int,a = .int .u64 n∧(Lit.int .u64 n).wf=true) (fun l ⟨n,h1,h2⟩=>⟨_,h1,n,rfl,h2⟩) (e:=149) (by kernel_rfl) (by kernel_rfl) (jL (k := .u64) (by kernel_rfl))).mono fun l ⟨L,h1,h2,h3⟩=>by
  obtain ⟨p,hp,rfl⟩:=Ap h3
  exact ⟨p,hp,h1⟩
theorem CI:jW enc Tryz.prog w 25 fun l=>∃s p,aT 18446744073709551616 p∧l=[.bool s,nA p] :=
 (vE (t0:=4) (t1:=23) (n0:=1) (n1:=1) (by kernel_rfl) (by kernel_rfl) (AA (by kernel_rfl)) vD).mono fun l ⟨l0,l1,h,⟨b,h0⟩,p,hp,h1⟩=>⟨b,p,hp,by rw [h,h0,h1]; rfl⟩
theorem CG:jW enc Tryz.prog w 27 fun l=>∃z:RQ,z.Lm∧l=z.cs :=
 (vE (t0:=25) (t1:=23) (n0:=2) (n1:=1) (by kernel_rfl) (by kernel_rfl) CI vD).mono fun l ⟨l0,l1,h,⟨b,p,hp,h0⟩,q,hq,h1⟩=>⟨⟨b,p,q⟩,⟨hp,hq⟩,by rw [h,h0,h1]; rfl⟩
end
open Go.ChangeShapes Go.WideShapes Go.ChangeAt Go.RowKit
section
variable {H:Type} {enc:TypeId×Value→H} {P:Program} {w:World}
theorem By {W:World} {r:Reach} {b:Nat} {t e:TypeId} {n:Nat} {v:Value} (ht:P.underlying t=some (.array n e)) (h:Value.okWide P W r b t v):∃vs,v = .agg vs:=by
 unfold Value.okWide at h
 rw [ht] at h
 cases v<;>first|exact ⟨_,rfl⟩|(simp [Cell.okWide,Cell.ok,ht] at h; done)
def Ab (P:Program) (t:TypeId):Bool:=match P.underlying t with
 | some (.struct _)=>true
 | some (.array _ _)=>true
 | _=>false
theorem Bu {W:World} {r:Reach} {b:Nat} {t:TypeId} {v:Value} (ht:Ab P t=true) (h:Value.okWide P W r b t v):∃vs,v = .agg vs:=by
 unfold Ab at ht
 split at ht
 ·next gs k1 =>
  unfold Value.okWide at h
  rw [k1] at h
  cases v<;>first|exact ⟨_,rfl⟩|(simp [Cell.okWide,Cell.ok,k1] at h; done)
 ·next n e k1=>exact By k1 h
 ·cases ht
theorem E3 {cx:Cx} {l:List AV} {v:Value} (ha:∃vs,v = .agg vs) (h1:∀u∈v.cells.toList,u.oneCell'=true) (h:Rl cx l v.cells.toList):Rl cx [.agg l] [v]:=by
 obtain ⟨vs,rfl⟩:=ha
 simp only [Rl,Rv]
 exact ⟨_,_,rfl,⟨_,rfl,by simpa [Value.cells] using h1,by simpa [Value.cells] using h⟩,rfl⟩
end
section
variable {H:Type} {enc:TypeId×Value→H} {w:World}
end
section
variable {H:Type} {enc:TypeId×Value→H} {w:World}
def xM (l:List AV):Prop:=∃z:RQ,z.Lm∧l=z.cs
end
set_option maxRecDepth 20000
theorem xz (m:MR) (hm:m.In 100000000):aa Tryz.prog 35 [m.av] (rA m.val.det):=by
 have k1:=vt m
 have k2:=vu m
 have k3:=ld m.x m.y ⟨hm.a.mono,hm.b.mono⟩ ⟨hm.c.mono,hm.d.mono⟩
 have e:m.x.val.cross m.y.val=m.val.det:=rfl
 rw [e] at k3
 have mro:=m.ro_cs
 have mlen:m.cs.length=18:=rfl
 have mtk:m.cs.take 18=m.cs:=rfl
 generalize m.val.det=r at *
 unfold MR.av at *
 generalize m.cs=M at *
 refine Pg Tryz.func35 rfl [.cell 2 27] rfl (bA _) ?_
 unfold PR.av MR.x MR.y at *
 simp only [dn] at *
 simp -implicitDefEqProofs [go_sem,mlen,mtk]
 refine aH _ k1 (by simp [go_sem,mro]) ?_
 simp -implicitDefEqProofs [go_sem,mlen,mtk]
 refine aH _ k2 (by simp [go_sem,mro]) ?_
 simp -implicitDefEqProofs [go_sem]
 refine ae k3 ?_
 simp -implicitDefEqProofs [go_sem,aL]
theorem o_:∀(f:Nat) (a:PQ) (l:List PQ),∃r,di f (a::l)=a::r
 | 0,a,l=>⟨l,rfl⟩
 | f+1,a,l=>by
  unfold di
  split
  ·rename_i h
   obtain ⟨b,l,rfl⟩:∃b r,l=b::r:=by
    cases l with
    | nil=>simp at h
    | cons b r=>exact ⟨b,r,rfl⟩
   rw [List.dropLast_cons_cons]
   exact o_ f a _
  ·exact ⟨l,rfl⟩
theorem s5 (a:PQ) (l:List PQ) (c:Bool):∃r,bE (a::l) c=a::r:=by
 unfold bE
 split
 ·exact o_ _ a _
 ·exact ⟨_,rfl⟩
theorem i9 (a:PQ):∀l,apart (a::cj a l)
 | []=>trivial
 | b::l=>by
  simp only [cj]
  split
  ·exact i9 a l
  ·rename_i h
   exact ⟨fun e=>h e.symm,i9 b l⟩
theorem lW:∀ {l:List PQ},apart l→apart l.dropLast
 | [],_=>trivial
 | [_],_=>trivial
 | [_,_],_=>trivial
 | a::b::c::r,h=>by
  rw [List.dropLast_cons_cons,List.dropLast_cons_cons]
  have:=lW (l:=b::c::r) h.2
  rw [List.dropLast_cons_cons] at this
  exact ⟨h.1,this⟩
theorem lX:∀(f:Nat) {l:List PQ},apart l→apart (di f l)
 | 0,_,h=>h
 | f+1,l,h=>by
  unfold di
  split
  ·exact lX f (lW h)
  ·exact h
theorem qX (l:List PQ) (c:Bool):apart (bE l c):=by
 have h:apart (aZ l):=by
  cases l with
  | nil=>trivial
  | cons a l=>exact i9 a l
 unfold bE
 split
 ·exact lX _ h
 ·exact h
theorem nY:∀ {l:List PQ} {i:Nat} (h:i+1<l.length),apart l→l[i]≠l[i+1]
 | a::b::r,0,_,h=>h.1
 | a::b::r,i+1,hi,h=>by
  have:=nY (l:=b::r) (i:=i) (by simpa using hi) h.2
  simpa using this
section
variable {m:PQ→PQ} (hm:∀p q,m p=m q→p=q)
include hm
theorem j8 (a:PQ):∀l:List PQ,cj (m a) (l.map m)=(cj a l).map m
 | []=>rfl
 | b::l=>by
  simp only [List.map_cons,cj]
  by_cases h:b=a
  ·subst h
   simp only [if_true]
   exact j8 b l
  ·have h2:¬m b=m a:=fun e=>h (hm _ _ e)
   simp only [h,h2,if_false,List.map_cons]
   rw [j8 b l]
theorem q_ (l:List PQ):aZ (l.map m)=(aZ l).map m:=by
 cases l with
 | nil=>rfl
 | cons a l=>simp only [List.map_cons,aZ]; rw [j8 hm]
theorem sF:∀(f:Nat) (l:List PQ),di f (l.map m)=(di f l).map m
 | 0,l=>rfl
 | f+1,l=>by
  unfold di
  have e:(l.map m).head?=(l.map m).getLast?↔l.head?=l.getLast?:=by
   rw [List.head?_map,List.getLast?_map]
   constructor
   ·intro h
    cases h1:l.head? with
    | none=>rw [h1] at h; cases h2:l.getLast? with
     | none=>rfl
     | some y=>rw [h2] at h; cases h
    | some x=>rw [h1] at h; cases h2:l.getLast? with
     | none=>rw [h2] at h; cases h
     | some y=>rw [h2] at h; simp only [Option.map_some,Option.some.injEq] at h; rw [hm _ _ h]
   ·intro h; rw [h]
  simp only [List.length_map,e]
  split
  ·rw [←List.map_dropLast,sF f]
  ·rfl
theorem wD (l:List PQ) (c:Bool):bE (l.map m) c=(bE l c).map m:=by
 unfold bE
 split
 ·rw [q_ hm,List.length_map,sF hm]
 ·exact q_ hm l
end
theorem AI {m:MQ} {tol:Rat} (h0:0<tol) {u:Sub} (h:∀s∈u.l,s.k=2):fg m tol u=(fg aW tol u).map m.app:=by
 unfold fg
 rw [gr h0 _ _ h,gr h0 _ _ h,List.map_cons,jK,List.map_map]
 congr 1
 refine List.map_congr_left fun s _=>?_
 simp only [Function.comp_apply,jK]
theorem Bc {m:MQ} {tol:Rat} (h0:0<tol) (hm:m.det≠0) {u:Sub} (h:∀s∈u.l,s.k=2):(nx m tol u).1=(nx aW tol u).1.map m.app:=by
 unfold nx
 simp only
 rw [AI h0 h,wD fun p q e=>uL hm e]
section
variable {H:Type} {enc:TypeId×Value→H} {P:Program} {w:World}
end
section
variable {H:Type} {enc:TypeId×Value→H} {w:World}
theorem CF:jW enc Tryz.prog w 29 fun l=>∃m:MR,m.Lm∧l=m.cs :=
 (AB [(27,3,xM),(27,3,xM),(27,3,xM),(27,3,xM),(27,3,xM),(27,3,xM)] (by kernel_rfl) (by kernel_rfl) (by kernel_rfl) (fun f hf=>by
  simp only [List.mem_cons,List.not_mem_nil,or_false,or_self] at hf
  subst hf; exact CG)).mono fun l ⟨a,_,e1,⟨x,hx,h1⟩,b,_,e2,⟨y,hy,h2⟩,c,_,e3,⟨z,hz,h3⟩,d,_,e4,⟨u,hu,h4⟩,g,_,e5,⟨v,hv,h5⟩,i,_,e6,⟨o,ho,h6⟩,e7⟩=>⟨⟨x,y,z,u,v,o⟩,⟨hx,hy,hz,hu,hv,ho⟩,by rw [e1,e2,e3,e4,e5,e6,e7,h1,h2,h3,h4,h5,h6]; rfl⟩
end
theorem p9 {m:MQ} {tol:Rat} {l:List Sg} (h0:0<tol) (hd:m.det≠0) (h2:∀u∈gD l,∀s∈u.l,s.k=2):aP l m tol=(aP l aW tol).map fun x=>(x.1.map m.app,x.2):=by
 unfold aP
 rw [List.map_map]
 refine List.map_congr_left fun u hu=>?_
 have:=Bc h0 hd (h2 u hu)
 exact Prod.ext this rfl
theorem rJ {m:MQ} {tol:Rat} {l:List Sg}:∀p∈aP l m tol,apart p.1∧p.1≠[]:=fun p hp=>by
 obtain ⟨u,hu,rfl⟩:=List.mem_map.1 hp
 refine ⟨qX _ _,?_⟩
 obtain ⟨r,hr⟩:=s5 (m.app u.f) (bB m tol u.f u.l) u.closed
 show bE (fg m tol u) u.closed≠[]
 unfold fg
 rw [hr]; simp
theorem kJ (l:List Sg) (m:MR) (hl:l.length≤9223372036854775807) (hm:m.Lm):aa Tryz.prog 7 [gH l,m.av] (.bool true):=by
 have kw:=lc
 have kone:=kD
 have kof:=dL 1 1 (by omega) (by omega) (by omega)
 rw [show ((1:Int):Rat) / ((1:Int):Rat)=1 by decide +kernel] at kof
 obtain ⟨b,kl,hb⟩:=k_ l m (qc 1) hl hm (lf _)
 have kgd:=kU l hl
 have hsr:=dz l
 have m0:(iP aW).cs.length=18:=rfl
 have m2:=(iP aW).ro_cs
 have m3:(iP aW).cs.take 18=(iP aW).cs:=rfl
 have mro:=m.ro_cs
 have mlen:m.cs.length=18:=rfl
 have mtk:m.cs.take 18=m.cs:=rfl
 have hr1:=bA 1
 have h01:(0:Rat)<(qc 1).val:=by rw [bp]; decide +kernel
 have s1:sz (1:Rat)≤1:=by rw [jq]; exact Nat.le_refl _
 have kdet:b=true→aa Tryz.prog 35 [m.av] (rA m.val.det):=fun h=>xz m ⟨(hb h).2.1.a.mono,(hb h).2.1.b.mono,(hb h).2.1.c.mono,(hb h).2.1.d.mono,(hb h).2.1.e.mono,(hb h).2.1.f.mono⟩
 have zdet:b=true→sz m.val.det≤17179869184:=fun h=>by
  have hm6:=(hb h).2.1
  have z1:=bV m.a.val m.d.val
  have z2:=bV m.b.val m.c.val
  have z3:=sz_sub (m.a.val*m.d.val) (m.b.val*m.c.val)
  have y1:=hm6.a.sz
  have y2:=hm6.b.sz
  have y3:=hm6.c.sz
  have y4:=hm6.d.sz
  change sz m.val.det≤_ at z3
  omega
 have ksg:=fun h=>A4 m.val.det (zdet h)
 have z0:=vO (x:=m.val.det)
 have kap:b=true→∀p:PQ,p.sz≤102→aa Tryz.prog 36 [m.av,pA p] (pA (m.val.app p)):=fun h p hp=>by
  have hm6:=(hb h).2.1
  have:=ig m (pc p) ⟨hm6.a.mono,hm6.b.mono,hm6.c.mono,hm6.d.mono,hm6.e.mono,hm6.f.mono⟩ (bK (by omega))
  rw [a7] at this
  exact this
 have hln:b=true→br l→(∀s∈l,s.k=1∨s.k=2∨s.k=6)→m.val.det≠0 →
  aa Tryz.prog 16 [gH l,m.av,(qc 1).av] (lz (aP l m.val 1,0))∧aa Tryz.prog 16 [gH l,(iP aW).av,(qc 1).av] (lz (aP l aW 1,0)) ∧
  aP l m.val 1=(aP l aW 1).map (fun x=>(x.1.map m.val.app,x.2))∧(aP l m.val 1).length≤12∧(∀p∈aP l m.val 1,p.1.length≤196700∧∀q∈p.1,q.sz≤102)∧(∀p∈aP l aW 1,p.1.length≤196700∧∀q∈p.1,q.sz≤102):=fun h hG hk hd=>by
  obtain ⟨h1,h2,h3,_⟩:=hb h
  have hp1:∀q:PQ,q.sz≤1→(m.val.app q).sz≤25:=fun q hq=>by have:=lY h2 (by omega) hq; omega
  have hp2:∀q:PQ,q.sz≤1→((iP aW).val.app q).sz≤25:=fun q hq=>by rw [jC,jK]; omega
  have o1:=mT (m:=m.val) (tol:=(qc 1).val) h01 hp1 h1 hG hk
  have o2:=mT (m:=(iP aW).val) (tol:=(qc 1).val) h01 hp2 h1 hG hk
  have l1:=fZ l m (qc 1) hl h2 (dY (by omega)) fun _ _=>⟨h1,fun i b=>(o1 i).1 b⟩
  have l2:=fZ l (iP aW) (qc 1) hl (qd (by omega)) (dY (by omega)) fun _ _=>⟨h1,fun i b=>(o2 i).1 b⟩
  have o1:=(o1 l.length).2
  have o2:=(o2 l.length).2
  rw [List.take_length] at o1 o2
  have n1:=je h2 h01 h1 fun u hu=>(o1 u hu).1
  have n2:=je (m:=iP aW) (qd (by omega)) h01 h1 fun u hu=>(o2 u hu).1
  have hmp:=p9 (l:=l) h01 hd fun u hu=>(o1 u hu).2
  unfold gZ at l1 l2
  rw [if_neg (fun h=>h hG),if_neg (by grind)] at l1 l2
  rw [jC] at l2 n2
  rw [bp] at l1 l2 n1 n2 hmp
  exact ⟨l1,l2,hmp,n1.1,n1.2,n2.2⟩
 have hap:=rJ (m:=m.val) (tol:=1) (l:=l)
 rw [show (qc 1).av=rA 1 from rfl] at kl hln
 have hcs:∀i (h:i<l.length),l[i].cs=[.int .i64 l[i].k,.int .i64 (l[i].v 0),.int .i64 (l[i].v 1),.int .i64 (l[i].v 2),.int .i64 (l[i].v 3),.int .i64 (l[i].v 4),.int .i64 (l[i].v 5),.int .i64 l[i].w]:=fun _ _=>rfl
 have hVl:(l.map Sg.av).length=l.length:=by simp
 have hVg:∀i (h:i<l.length),aX (l.map Sg.av) (i:Int) = .agg l[i].cs:=fun i h=>fY h
 unfold MR.av at *
 generalize (iP aW).cs=M1 at *
 generalize m.cs=M at *
 unfold gH at *
 generalize l.map Sg.av=V at *
 refine Pg Tryz.func7 rfl [.tmp 4] rfl (by simp -implicitDefEqProofs [go_sem]) ?_
 simp only [dn] at *
 have lrc:∀x:Rat,(rC x).length=3:=fun _=>rfl
 have trc:∀x:Rat,(rC x).take 3=rC x:=fun _=>rfl
 have drc:∀x:Rat,(rC x).drop 3=[]:=fun _=>rfl
 simp -implicitDefEqProofs [go_sem,mlen,mtk]
 refine ac kof ?_
 simp -implicitDefEqProofs [go_sem,mlen,mtk,lrc,trc,drc]
 refine an _ kl (by simp [go_sem,hsr,mro]) ?_
 cases b
 ·simp -implicitDefEqProofs [go_sem]
  refine ac kw ?_
  simp -implicitDefEqProofs [go_sem]
 simp -implicitDefEqProofs [go_sem]
 refine an _ kgd (by simp [go_sem,hsr]) ?_
 by_cases hG:br l
 rotate_left
 ·simp -implicitDefEqProofs [go_sem,hG]
  refine ac kw ?_
  simp -implicitDefEqProofs [go_sem]
 simp -implicitDefEqProofs [go_sem,hG,mlen,mtk]
 refine an _ (kdet rfl) (by simp -implicitDefEqProofs [go_sem,mro]) ?_
 simp -implicitDefEqProofs [go_sem]
 refine ac (ksg rfl) ?_
 by_cases hd:m.val.det=0
 ·simp -implicitDefEqProofs [go_sem,z0.2 hd]
  refine ac kw ?_
  simp -implicitDefEqProofs [go_sem]
 have hs0:¬dg m.val.det=0:=fun h=>hd (z0.1 h)
 simp -implicitDefEqProofs [go_sem,hs0]
 have mrr:=fun rn=>renL_ro rn _ mro
 have mrc:=cloL_ro (n:=2) _ mro
 have vrr:=fun rn=>renL_ro rn _ hsr
 have vrc:=cloL_ro (n:=2) _ hsr
 refine ak 2 (α:={i:Nat // i≤l.length∧∀s∈l.take i,s.k=1∨s.k=2∨s.k=6}) (fun i=>[(0,.sl 8 false V),(3,.ptr 0 0 0),(5,.ptr 1 0 0),(6,.int .i64 i.1)])
  (fun i=>[(0,.live 18 [.agg M]),(1,.live 3 [.agg (rC 1)])]) (fun i=>l.length-i.1) ⟨0,Nat.zero_le _,by simp⟩ [] (by simp) (fun _ _ _ _ h=>h) (by simp) (by simp -implicitDefEqProofs [go_sem,vrr,vrc]) (by simp -implicitDefEqProofs [go_sem,mrr,mrc]) fun ⟨i,hi,hPi⟩=>?_
 by_cases a:i<l.length
 ·have a1':(i:Int)<l.length:=by omega
  have es:=wS i (by omega)
  have gi:=hVg i a
  have hcs:=hcs i a
  have htk:∀s∈l.take (i+1),s∈l.take i∨s=l[i]:=fun s hs=>by
   rw [List.take_succ_eq_append_getElem a,List.mem_append,List.mem_singleton] at hs
   exact hs
  generalize l[i]=x at *
  have hnx:(x.k=1∨x.k=2∨x.k=6)→∀s∈l.take (i+1),s.k=1∨s.k=2∨s.k=6:=fun h s hs=>by
   rcases htk s hs with h1|h1
   ·exact hPi s h1
   ·rw [h1]; exact h
  by_cases x1:x.k=1
  ·simp -implicitDefEqProofs [go_sem,a,a1',hVl,gi,hcs,x1,es]
   exact ab ⟨i+1,a,hnx (by omega)⟩ (by simp only; omega) [] (by simp) (fun _ _ _ _ h=>h) (by simp) (by simp -implicitDefEqProofs [go_sem,vrr,vrc]) (by simp -implicitDefEqProofs [go_sem,mrr,mrc])
  by_cases x2:x.k=2
  ·simp -implicitDefEqProofs [go_sem,a,a1',hVl,gi,hcs,x1,x2,es]
   exact ab ⟨i+1,a,hnx (by omega)⟩ (by simp only; omega) [] (by simp) (fun _ _ _ _ h=>h) (by simp) (by simp -implicitDefEqProofs [go_sem,vrr,vrc]) (by simp -implicitDefEqProofs [go_sem,mrr,mrc])
  by_cases x6:x.k=6
  ·simp -implicitDefEqProofs [go_sem,a,a1',hVl,gi,hcs,x1,x2,x6,es]
   exact ab ⟨i+1,a,hnx (by omega)⟩ (by simp only; omega) [] (by simp) (fun _ _ _ _ h=>h) (by simp) (by simp -implicitDefEqProofs [go_sem,vrr,vrc]) (by simp -implicitDefEqProofs [go_sem,mrr,mrc])
  simp -implicitDefEqProofs [go_sem,a,a1',hVl,gi,hcs,x1,x2,x6]
  refine ac kw ?_
  simp -implicitDefEqProofs [go_sem]
 have a1':¬(i:Int)<l.length:=by omega
 have hii:i=l.length:=by omega
 obtain ⟨k1,k2,hmp,n1,n2,n3⟩:=hln rfl hG (fun s hs=>hPi s (by rw [hii,List.take_length]; exact hs)) hd
 have kap:=kap rfl
 generalize aP l m.val 1=A at *
 generalize aP l aW 1=B at *
 have hAB:B.length=A.length:=by rw [hmp]; simp
 have hAg:∀i (h:i<A.length),aX (A.map ip) (i:Int) = .agg [.sl 6 false (A[i].1.map pA),.bool A[i].2]:=fun i h=>eG h
 have hBg:∀i (h:i<A.length),aX (B.map ip) (i:Int) = .agg [.sl 6 false ((B[i]'(by omega)).1.map pA),.bool (B[i]'(by omega)).2]:=fun i h=>eG (by omega)
 have hAr:=jO A
 have hBr:=jO B
 have hmi:∀i (h:i<A.length),A[i]=((B[i]'(by omega)).1.map m.val.app,(B[i]'(by omega)).2):=fun i h=>by
  have:A[i]?=(B.map fun x=>(x.1.map m.val.app,x.2))[i]?:=by rw [←hmp]
  rw [List.getElem?_map,List.getElem?_eq_getElem h,List.getElem?_eq_getElem (by omega)] at this
  simpa using this
 have hAl:(A.map ip).length=A.length:=by simp
 have hBl:(B.map ip).length=A.length:=by rw [hmp]; simp
 unfold lz lD at k1 k2
 generalize A.map ip=AV' at *
 generalize B.map ip=BV at *
 simp -implicitDefEqProofs [go_sem,a1',hVl,mlen,mtk,lrc,trc,drc]
 refine an _ k1 (by simp [go_sem,hsr,mro]) ?_
 simp -implicitDefEqProofs [go_sem]
 refine ae kone ?_
 simp -implicitDefEqProofs [go_sem,lrc,trc,drc]
 refine aH _ k2 (by simp [go_sem,hsr,m2]) ?_
 simp -implicitDefEqProofs [go_sem,hAl,hBl]
 have avr:=fun rn=>renL_ro rn _ hAr
 have avc:=cloL_ro (n:=2) _ hAr
 have bvr:=fun rn=>renL_ro rn _ hBr
 have bvc:=cloL_ro (n:=2) _ hBr
 clear hPi hi a hii
 refine ak 2 (α:={j:Nat // j≤A.length}) (fun j=>[(3,.ptr 0 0 0),(7,.sl 2 false AV'),(9,.sl 2 false BV),(11,.int .i64 j.1)])
  (fun j=>[(0,.live 18 [.agg M])]) (fun j=>A.length-j.1) ⟨0,Nat.zero_le _⟩ [] (by simp) (fun _ _ _ _ h=>h) (by simp) (by simp -implicitDefEqProofs [go_sem,avr,avc,bvr,bvc]) (by simp -implicitDefEqProofs [go_sem,mrr,mrc]) fun ⟨j,hj⟩=>?_
 by_cases a:j<A.length
 ·have a1:(j:Int)<A.length:=by omega
  have es:=wS j (by omega)
  have ga:=hAg j a
  have gb:=hBg j a
  have hm1:=hmi j a
  have hn2:=n2 _ (List.getElem_mem a)
  have hn3:=n3 _ (List.getElem_mem (show j<B.length by omega))
  obtain ⟨ap1,ap2⟩:=hap _ (List.getElem_mem a)
  generalize B[j]'(by omega)=y at *
  rw [hm1] at ga hn2 ap1 ap2
  obtain ⟨yl,yc⟩:=y
  simp only at ga gb hn2 hn3 ap1 ap2
  obtain ⟨xl,hxl⟩:∃xl,xl=yl.map m.val.app:=⟨_,rfl⟩
  rw [←hxl] at ga hn2 ap1 ap2
  have hlen:xl.length=yl.length:=by rw [hxl]; simp
  have hxg:∀k (h:k<xl.length),xl[k]=m.val.app (yl[k]'(by omega)):=fun k h=>by subst hxl; rw [List.getElem_map]
  have hx0:¬(xl.length:Int)=0:=by have:=mt List.length_eq_zero_iff.1 ap2; omega
  have gx:∀k (h:k<xl.length),aX (xl.map pA) (k:Int) = .agg (pC xl[k]):=fun k h=>eG h
  have gy:∀k (h:k<xl.length),aX (yl.map pA) (k:Int) = .agg (pC (yl[k]'(by omega))):=fun k h=>eG (by omega)
  have hap1:∀k (h:k+1<xl.length),xl[k]≠xl[k+1]:=fun k h=>nY h ap1
  have xr:=cI xl
  have yr:=cI yl
  have hXl:(xl.map pA).length=xl.length:=by simp
  have hYl:(yl.map pA).length=xl.length:=by rw [hlen]; simp
  generalize xl.map pA=X at *
  generalize yl.map pA=Y at *
  simp -implicitDefEqProofs [go_sem,a1,a,hAl,hBl,ga,gb,hXl,hYl,hx0,ap2]
  refine ak 2 (α:={k:Nat // k≤xl.length}) (fun k=>[(3,.ptr 0 0 0),(7,.sl 2 false AV'),(9,.sl 2 false BV),(11,.int .i64 j),(12,.int .i64 k.1)])
   (fun k=>[(0,.live 18 [.agg M])]) (fun k=>xl.length-k.1) ⟨0,Nat.zero_le _⟩ [] (by simp) (fun _ _ _ _ h=>h) (by simp) (by simp -implicitDefEqProofs [go_sem,avr,avc,bvr,bvc]) (by simp -implicitDefEqProofs [go_sem,mrr,mrc]) fun ⟨k,hk⟩=>?_
  by_cases c:k<xl.length
  ·have c1:(k:Int)<xl.length:=by omega
   have ek:=wS k (by omega)
   have ex:=gx k c
   have ey:=gy k c
   have hz1:=hn2.2 _ (List.getElem_mem c)
   have hz2:=hn3.2 _ (List.getElem_mem (show k<yl.length by omega))
   have hq:=hxg k c
   have ka:=kap _ hz2
   rw [←hq] at ka
   have ksf:=gg xl[k] (by omega)
   simp only [ce] at ka ksf
   simp -implicitDefEqProofs [go_sem,c1,c,a1,a,hAl,hBl,ga,gb,hXl,hYl,ex,ey,mlen,mtk]
   refine aH _ ka (by simp [go_sem,mro]) ?_
   simp -implicitDefEqProofs [go_sem,c1,c,a1,a,hAl,hBl,ga,gb,hXl,hYl,ex,ey]
   refine ae ksf ?_
   by_cases k0:k=0
   ·subst k0
    simp -implicitDefEqProofs [go_sem,ek]
    exact ab ⟨1,c⟩ (by simp only; omega) [] (by simp) (fun _ _ _ _ h=>h) (by simp) (by simp -implicitDefEqProofs [go_sem,avr,avc,bvr,bvc,bC]) (by simp -implicitDefEqProofs [go_sem,mrr,mrc])
   ·have k1':(0:Int)<(k:Int):=by omega
    have ed:IntKind.i64.wrap ((k:Int)-1)=((k-1:Nat):Int):=by rw [bC (by omega)]; omega
    have ex1:=gx (k-1) (by omega)
    have hne:xl[k]≠xl[k-1]'(by omega):=fun h=>by
     have:=hap1 (k-1) (by omega)
     simp only [show k-1+1=k by omega] at this
     exact this h.symm
    have hz3:=hn2.2 _ (List.getElem_mem (show k-1<xl.length by omega))
    have ks2:=dK xl[k] (xl[k-1]'(by omega)) (by omega) (by omega)
    rw [decide_eq_false hne] at ks2
    simp only [ce] at ks2
    have c2:k-1<xl.length:=by omega
    have c3:k<X.length:=by omega
    have c4:k-1<X.length:=by omega
    simp -implicitDefEqProofs [go_sem,k1',show 0<k by omega,k0,ed,ex1,c1,c2,c3,c4,c,a1,a,hAl,hBl,ga,gb,hXl,hYl,ex,ey]
    refine ae ks2 ?_
    simp -implicitDefEqProofs [go_sem,ek]
    exact ab ⟨k+1,c⟩ (by simp only; omega) [] (by simp) (fun _ _ _ _ h=>h) (by simp) (by simp -implicitDefEqProofs [go_sem,avr,avc,bvr,bvc]) (by simp -implicitDefEqProofs [go_sem,mrr,mrc])
  ·have c1:¬(k:Int)<xl.length:=by omega
   simp -implicitDefEqProofs [go_sem,c1,c,a1,a,hAl,hBl,ga,gb,hXl,hYl,es]
   exact ab ⟨j+1,a⟩ (by simp only; omega) [] (by simp) (fun _ _ _ _ h=>h) (by simp) (by simp -implicitDefEqProofs [go_sem,avr,avc,bvr,bvc]) (by simp -implicitDefEqProofs [go_sem,mrr,mrc])
 ·have a1:¬(j:Int)<A.length:=by omega
  simp -implicitDefEqProofs [go_sem,a1,hAl]
  refine ac kw ?_
  simp -implicitDefEqProofs [go_sem]
end Go.Proofs.YtdnmfaljidjijaaGreat
