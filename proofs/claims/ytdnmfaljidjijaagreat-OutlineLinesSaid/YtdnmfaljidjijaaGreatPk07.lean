import Derived.Test.YtdnmfaljidjijaaGreatPk05
import Derived.ProofKit
import Derived.ChangeSlices
import Derived.Test.YtdnmfaljidjijaaGreatProg
import Derived.Carry
import Derived.OpenShut
import Derived.Test.YtdnmfaljidjijaaGreatRows
namespace Go.Proofs.YtdnmfaljidjijaaGreat
set_option maxHeartbeats 64000000
open Go Go.RowKit
set_option linter.unusedSimpArgs false
set_option linter.unusedVariables false
section
variable {P:Program} {z:Bool} {ne:Nat} {Q:AEx→St→Prop} {k:List Itm} {t:Nat→AV} {f:Nat→BS} {n:Nat}
theorem zR {n0:Nat} {α:Type} {tl:α→List (Nat×AV)} {hl:α→List (Nat×BS)} {m:α→Nat} {x:α} (g sz:Nat) (l:List AV) (hg:f g = .live sz l) (y:α) (hm:m y<m x) (rl:List (Nat×Nat)) (hrl:∀p∈rl,ne≤p.1) (hri:∀p∈hl y,∀q∈hl y,nm rl p.1=nm rl q.1→p.1=q.1) (hne:ne≤n0) (ht:∀p∈tl y,frz g l (t p.1)=ren (nm rl) p.2∧clo n0 p.2) (hh:∀p∈hl y,p.1<n0∧lX g l (nm rl p.1) (f (nm rl p.1))=gu (nm rl) p.2∧dJ ne n0 p) :
 go P z ne Q (.lp α (fun y=>xr n0 (tl y) (hl y)) m x::k) t f n:=by
 rw [Cf]
 exact ⟨y,(qt g sz l hg).trans (dz rl hrl hri hne ht hh),hm⟩
end
open Go Go.Proofs
open Go.ChangeShapes
section
variable {H:Type} {enc:TypeId×Value→H} {P:Program} {w:World}
theorem CZ {t:TypeId} (ht:P.underlying t=some .bool):lD enc P w t fun l=>∃b,l=[.bool b]:=fun fuel cs x h=>by
 obtain ⟨b,rfl,_⟩:=DataW.trod_bool ht h
 exact ⟨_,⟨b,rfl⟩,fun cx _ _=>by simp [Rl,Rv],by simp [Value.oneCell']⟩
theorem zd {v:Value} (h:v.oneCell'=true):v.cells = #[v]:=by cases v<;>simp_all [Value.oneCell',Value.cells]
theorem pQ {t e:TypeId} {Q:List AV→Prop} {R:AV→Prop} (hQ:∀l,Q l→∃a,l=[a]∧R a) (ht:P.underlying t=some (.slice e)) (hsz:P.cellsOf e=1) (he:lD enc P w e Q) :
 lD enc P w t fun l=>∃L:List AV,l=[.sl 1 false L]∧L.length≤9223372036854775807∧∀a∈L,R a :=
 jf ht hsz (by omega) he fun l cs hq hl h1=>by
  obtain ⟨a,rfl,hr⟩:=hQ l hq
  match cs,hl with
  | [v],_ =>
   have hv:=h1 v (by simp)
   refine ⟨a,hr,v,by rw [zd hv],.inr hv,fun cx hx=>?_⟩
   simp only [Rl] at hx
   obtain ⟨_,_,e,h,_⟩:=hx
   injection e with e1 _
   rw [e1]; exact h
theorem ut {t:TypeId} {f0 f1:Field} {Q0 Q1:List AV→Prop} {n0 n1:Nat} (ht:P.underlying t=some (.struct #[f0,f1])) (h0:lD enc P w f0.type Q0) (h1:lD enc P w f1.type Q1)
 (hc:(P.cellsOf f0.type,P.cellsOf f1.type,P.cellsOf t,f0.offset,f1.offset)=(n0,n1,n0+n1,0,n0)):lD enc P w t fun l=>∃l0 l1,l=l0++l1∧Q0 l0∧Q1 l1:=fun fuel cs x h=>by
 simp only [Prod.mk.injEq] at hc
 obtain ⟨c0,c1,c2,c3,c4⟩:=hc
 obtain ⟨y0,y1,n,_,hl,k0,k1⟩:=trod_struct2 ht h
 rw [c3,c0,List.drop_zero] at k0
 rw [c4,c1] at k1
 obtain ⟨l0,a1,a2,a3⟩:=h0 _ _ _ k0
 obtain ⟨l1,b1,b2,b3⟩:=h1 _ _ _ k1
 have e:cs=cs.take n0++(cs.drop n0).take n1:=by
  rw [List.take_of_length_le (l:=cs.drop n0) (by simp; omega),List.take_append_drop]
 refine ⟨l0++l1,⟨l0,l1,rfl,a1,b1⟩,fun cx e1 e2=>?_,fun u hu=>?_⟩
 ·rw [e]; exact (a2 cx e1 e2).append (b2 cx e1 e2)
 ·rw [e] at hu
  rcases List.mem_append.1 hu with h|h
  ·exact a3 u h
  ·exact b3 u h
theorem yu {t t0 t1:TypeId} {Q0 Q1:List AV→Prop} {n0 n1:Nat} (ht:Fh P t=some [(0,t0),(n0,t1)]) (hc:(P.cellsOf t0,P.cellsOf t1,P.cellsOf t)=(n0,n1,n0+n1))
 (h0:lD enc P w t0 Q0) (h1:lD enc P w t1 Q1):lD enc P w t fun l=>∃l0 l1,l=l0++l1∧Q0 l0∧Q1 l1:=by
 obtain ⟨⟨l⟩,k1,k2⟩:=q9 ht
 obtain ⟨f0,f1,rfl⟩:∃f0 f1,l=[f0,f1]:=by
  have hl:l.length=2:=by simpa using congrArg List.length k2
  match l,hl with
  | [f0,f1],_=>exact ⟨f0,f1,rfl⟩
 ·simp only [List.map_cons,List.map_nil,List.cons.injEq,Prod.mk.injEq,and_true] at k2
  obtain ⟨⟨a1,a2⟩,b1,b2⟩:=k2
  subst a2 b2
  simp only [Prod.mk.injEq] at hc
  exact ut k1 h0 h1 (by rw [hc.1,hc.2.1,hc.2.2,a1,b1])
end
@[go_sem] theorem Pd:ak Tryz.prog 36=some ⟨1,24,(.slice 59),[(.sl 0 true [])]⟩:=by kernel_rfl
@[go_sem] theorem Pe:ak Tryz.prog 38=some ⟨2,32,(.struct [(0,36),(1,3)]),[(.sl 0 true []),(.int .i64 0)]⟩:=by kernel_rfl
@[go_sem] theorem Po:ak Tryz.prog 59=some ⟨2,32,(.struct [(0,57),(1,4)]),[(.sl 0 true []),(.bool false)]⟩:=by kernel_rfl
@[go_sem] theorem Oh:ak Tryz.prog 139=some ⟨1,24,(.slice 222),[(.sl 0 true [])]⟩:=by kernel_rfl
@[go_sem] theorem Oj:ak Tryz.prog 143=some ⟨3,40,(.struct [(0,57),(1,3),(2,3)]),[(.sl 0 true []),(.int .i64 0),(.int .i64 0)]⟩:=by kernel_rfl
@[go_sem] theorem Ov:ak Tryz.prog 222=some ⟨9,168,(.struct [(0,45),(3,45),(6,45)]),[(.bool false),(.sl 0 true []),(.sl 0 true []),(.bool false),(.sl 0 true []),(.sl 0 true []),(.bool false),(.sl 0 true []),(.sl 0 true [])]⟩:=by kernel_rfl
@[go_sem] theorem Ow:ak Tryz.prog 227=some ⟨2,32,(.struct [(0,139),(1,3)]),[(.sl 0 true []),(.int .i64 0)]⟩:=by kernel_rfl
@[go_sem] theorem Ox:ak Tryz.prog 228=some ⟨1,24,(.slice 227),[(.sl 0 true [])]⟩:=by kernel_rfl
@[go_sem] theorem Oy:ak Tryz.prog 231=some ⟨2,48,(.struct [(0,139),(1,139)]),[(.sl 0 true []),(.sl 0 true [])]⟩:=by kernel_rfl
set_option maxRecDepth 20000
theorem tQ (x:Rat):ab Tryz.prog 190 [fA x] (fA (-x)):=by
 have h:=i6 x.num
 refine Pg Tryz.func190 rfl [.cell 2 45] rfl (fU _) ?_
 unfold fA iA qA at *
 rw [Rat.neg_num,Rat.neg_den]
 generalize -x.num=m at *
 simp -implicitDefEqProofs [go_sem]
 refine aa h ?_
 simp -implicitDefEqProofs [go_sem,aS]
theorem lY (x y:Rat) (hx:sz x≤17179869184) (hy:sz y≤17179869184):ab Tryz.prog 118 [fA x,fA y] (fA (x-y)):=by
 have h1:=tQ y
 have h2:=eF x (-y) hx (by rw [sz_neg]; exact hy)
 rw [←Rat.sub_eq_add_neg] at h2
 generalize x-y=r at *
 generalize -y=m at *
 refine Pg Tryz.func118 rfl [.cell 4 45] rfl (fU _) ?_
 unfold fA qA at *
 simp -implicitDefEqProofs [go_sem]
 refine aa h1 ?_
 simp -implicitDefEqProofs [go_sem]
 refine aa h2 ?_
 simp -implicitDefEqProofs [go_sem,aS]
theorem lS (x y:Rat) (hx:sz x≤17179869184) (hy:sz y≤17179869184) (h0:y≠0):ab Tryz.prog 214 [fA x,fA y] (fA (x / y)):=by
 have:=bA x; have:=bA y; have:=a9 x; have:=a9 y
 have dx:=dQ x
 have dy:=dQ y
 have m1:=fB x.num y.den (by omega) (by simp; omega)
 have hs:=cZ y
 have hn:=i6 (x.num*y.den)
 have m2:=eJ x.den y.num.natAbs (eU (by omega)) (eU (by omega))
 have hyn:y.num≠0:=fun h=>h0 (Rat.num_eq_zero.1 h)
 have hd0:x.den*y.num.natAbs≠0:=Nat.mul_ne_zero x.den_nz (by omega)
 have hmk:=fun p (hp:nl p.natAbs<549755813888)=>fO p (x.den*y.num.natAbs) hp (by
  have h1:=aZ x.den y.num.natAbs
  omega) hd0
 have hpn:nl (x.num*y.den).natAbs<549755813888:=by
  have h1:=aZ x.num.natAbs y.den
  rw [Int.natAbs_mul]; simp; omega
 have hv:x / y=mkRat (if y.num<0 then -(x.num*y.den) else x.num*y.den) (x.den*y.num.natAbs):=by
  have h1:=nY (x.num*y.den) (y.num*x.den)
  have h2:((x.num*y.den:Int):Rat) / ((y.num*x.den:Int):Rat)=x / y:=by
   have h1:=nB x
   have h2:=nB y
   have h3:(x.den:Rat)≠0:=by simpa using x.den_nz
   have h4:(y.den:Rat)≠0:=by simpa using y.den_nz
   rw [Rat.intCast_mul,Rat.intCast_mul,Rat.intCast_natCast,Rat.intCast_natCast]
   conv=>rhs; rw [h1,h2]
   generalize (x.num:Rat)=a at *
   generalize (y.num:Rat)=b at *
   generalize (x.den:Rat)=c at *
   generalize (y.den:Rat)=d at *
   clear h1 h2 m1 m2 hmk
   grind
  rw [h2] at h1
  have h3:(y.num*(x.den:Int)).natAbs=x.den*y.num.natAbs:=by rw [Int.natAbs_mul,Nat.mul_comm]; simp
  have h4:y.num*(x.den:Int)<0↔y.num<0:=by
   have:=x.den_pos
   constructor
   ·intro h
    rcases Int.lt_or_le y.num 0 with h5|h5
    ·exact h5
    ·have:=Int.mul_nonneg h5 (Int.natCast_nonneg x.den); omega
   ·intro h; exact Int.mul_neg_of_neg_of_pos h (by omega)
  rw [h3] at h1
  simp only [h4] at h1
  exact h1
 rw [hv]
 generalize x.num*y.den=u at *
 generalize hdd:x.den*y.num.natAbs=d at *
 rw [rX] at dx dy m1
 refine Pg Tryz.func214 rfl [.cell 4 45] rfl (fU _) ?_
 unfold cP eX at hs
 rcases Int.lt_or_le y.num 0 with h1|h1
 ·rw [if_pos h1] at hs ⊢
  have hm:=hmk (-u) (by rw [Int.natAbs_neg]; exact hpn)
  clear hmk hv
  generalize mkRat (-u) d=r at *
  generalize -u=v at *
  unfold fA iA qA at *
  simp -implicitDefEqProofs [go_sem]
  refine aa dy ?_
  simp -implicitDefEqProofs [go_sem]
  refine aa m1 ?_
  simp -implicitDefEqProofs [go_sem]
  refine ag hs ?_
  simp -implicitDefEqProofs [go_sem]
  refine ag hn ?_
  simp -implicitDefEqProofs [go_sem]
  refine aa dx ?_
  simp -implicitDefEqProofs [go_sem]
  refine aa m2 ?_
  simp -implicitDefEqProofs [go_sem]
  refine aa hm ?_
  simp -implicitDefEqProofs [go_sem,aS]
 ·rw [if_neg (by omega),if_neg hyn] at hs
  rw [if_neg (by omega)]
  have hm:=hmk u hpn
  clear hmk hv
  generalize mkRat u d=r at *
  unfold fA iA qA at *
  simp -implicitDefEqProofs [go_sem]
  refine aa dy ?_
  simp -implicitDefEqProofs [go_sem]
  refine aa m1 ?_
  simp -implicitDefEqProofs [go_sem]
  refine ag hs ?_
  simp -implicitDefEqProofs [go_sem]
  refine aa dx ?_
  simp -implicitDefEqProofs [go_sem]
  refine aa m2 ?_
  simp -implicitDefEqProofs [go_sem]
  refine aa hm ?_
  simp -implicitDefEqProofs [go_sem,aS]
theorem zE (x y:Rat) (hx:sz x≤17179869184) (hy:sz y≤17179869184):ab Tryz.prog 232 [fA x,fA y] (fA (if x<y then y else x)):=by
 have h:=dh y x hy hx
 have hc := @dG y x
 generalize bW y x=c at *
 refine Pg Tryz.func232 rfl [.cell 4 45] rfl (fU _) ?_
 by_cases hl:x<y
 ·have h0:=hc.2 hl
  rw [if_pos hl]
  unfold fA qA at *
  simp -implicitDefEqProofs [go_sem]
  refine ag h ?_
  simp -implicitDefEqProofs [go_sem,h0,aS]
 ·have h0:¬0<c:=fun h=>hl (hc.1 h)
  rw [if_neg hl]
  unfold fA qA at *
  simp -implicitDefEqProofs [go_sem]
  refine ag h ?_
  simp -implicitDefEqProofs [go_sem,h0,aS]
theorem qE (a:List Nat) (ha:cf a):ab Tryz.prog 222 [nA a,nA a] (.bool true):=by
 unfold cf at ha
 refine Pg Tryz.func222 rfl [.tmp 4] rfl (by simp -implicitDefEqProofs [go_sem]) ?_
 simp -implicitDefEqProofs [go_sem]
 refine aj 9 (α:={i:Nat // i≤a.length}) (fun i=>[(0,nA a),(1,nA a),(5,.int .i64 i.1)]) (fun i=>[]) (fun i=>a.length-i.1) ⟨0,by omega⟩ [] (by simp) (by simp) (by simp) (by simp -implicitDefEqProofs [go_sem]) (by simp -implicitDefEqProofs [go_sem]) fun ⟨i,hi⟩=>?_
 simp -implicitDefEqProofs [go_sem]
 intro h
 have hg:=aQ .u64 (l:=a) (i:=i) h
 have es:=wS i (by omega)
 simp -implicitDefEqProofs [go_sem,hg,es]
 exact ⟨h,ae ⟨i+1,by omega⟩ (by simp only; omega) [] (by simp) (by simp) (by simp) (by simp -implicitDefEqProofs [go_sem]) (by simp -implicitDefEqProofs [go_sem])⟩
theorem Af (x:Int) (h:nl x.natAbs<1099511627776):ab Tryz.prog 221 [zA x,zA x] (.bool true):=by
 have hn:=qE (am 18446744073709551616 x.natAbs) h
 refine Pg Tryz.func221 rfl [.tmp 4] rfl (by simp -implicitDefEqProofs [go_sem]) ?_
 unfold zA ZR.av zc
 simp -implicitDefEqProofs [go_sem]
 refine ag hn ?_
 simp -implicitDefEqProofs [go_sem]
theorem qQ (x:Rat) (h:sz x<1099511627776):ab Tryz.prog 157 [rA x,rA x] (.bool true):=by
 have h1:=Af x.num (Nat.lt_of_le_of_lt (bA x) h)
 have h2:=qE (am 18446744073709551616 x.den) (Nat.lt_of_le_of_lt (a9 x) h)
 refine Pg Tryz.func157 rfl [.tmp 4] rfl (by simp -implicitDefEqProofs [go_sem]) ?_
 unfold rA RQ.av qc zA ZR.av zc at *
 simp only at *
 simp -implicitDefEqProofs [go_sem]
 refine ag h1 ?_
 simp -implicitDefEqProofs [go_sem]
 refine ag h2 ?_
 simp -implicitDefEqProofs [go_sem]
theorem PQ.dot_nn (p:PQ):0≤p.dot p:=by
 have h1:=jl p.x; have h2:=jl p.y
 unfold PQ.dot
 grind
theorem tu {f:Nat→BS} {sz id:Nat} {L:List AV} (hr:roL L) (h:L≠[]→f id = .live sz L):aE f (b9 sz id L)∧ro (aM f (b9 sz id L))∧Wk (aM f (b9 sz id L)) (.sl sz false L):=by
 by_cases h0:L=[]
 ·subst h0
  refine ⟨by simp [b9,aE,fitsL],by simp [b9,aM,ro,roL],?_⟩
  simp only [b9,if_true,aM]
  exact Wk.nil 0 sz true
 ·rw [aN h0]
  simp only [aE,aM,h h0,Nat.zero_add,List.drop_zero,List.take_length,ro]
  exact ⟨Nat.le_refl _,hr,Wk.refl _⟩
theorem CI {L:List AV} (h:∀a∈L,∃n:Int,a = .int .u64 n∧(Lit.int .u64 n).wf=true):∃p:List Nat,bu 18446744073709551616 p∧L=uA .u64 p:=by
 induction L with
 | nil=>exact ⟨[],by simp [bu],rfl⟩
 | cons a L ih =>
  obtain ⟨p,h1,rfl⟩:=ih fun x hx=>h x (by simp [hx])
  obtain ⟨n,rfl,hw⟩:=h a (by simp)
  simp only [Lit.wf,Bool.and_eq_true,decide_eq_true_eq] at hw
  have e1:IntKind.u64.min=0:=by decide
  have e2:IntKind.u64.max=18446744073709551615:=by decide
  rw [e1,e2] at hw
  refine ⟨n.toNat::p,fun x hx=>?_,?_⟩
  ·rcases List.mem_cons.1 hx with rfl|hx
   ·omega
   ·exact h1 x hx
  ·simp only [uA,List.map_cons]
   rw [show ((n.toNat:Nat):Int)=n by omega]
section
variable {H:Type} {enc:TypeId×Value→H} {w:World}
theorem yq:lD enc Tryz.prog w 23 fun l=>∃p,bu 18446744073709551616 p∧l=[nA p] :=
 (pQ (R:=fun a=>∃n:Int,a = .int .u64 n∧(Lit.int .u64 n).wf=true) (fun l ⟨n,h1,h2⟩=>⟨_,h1,n,rfl,h2⟩) (e:=149) (by kernel_rfl) (by kernel_rfl) (nD (k := .u64) (by kernel_rfl))).mono fun l ⟨L,h1,h2,h3⟩=>by
  obtain ⟨p,hp,rfl⟩:=CI h3
  exact ⟨p,hp,h1⟩
theorem E3:lD enc Tryz.prog w 25 fun l=>∃s p,bu 18446744073709551616 p∧l=[.bool s,nA p] :=
 (yu (t0:=4) (t1:=23) (n0:=1) (n1:=1) (by kernel_rfl) (by kernel_rfl) (CZ (by kernel_rfl)) yq).mono fun l ⟨l0,l1,h,⟨b,h0⟩,p,hp,h1⟩=>⟨b,p,hp,by rw [h,h0,h1]; rfl⟩
theorem yr:lD enc Tryz.prog w 27 fun l=>∃z:RQ,z.Lm∧l=z.cs :=
 (yu (t0:=25) (t1:=23) (n0:=2) (n1:=1) (by kernel_rfl) (by kernel_rfl) E3 yq).mono fun l ⟨l0,l1,h,⟨b,p,hp,h0⟩,q,hq,h1⟩=>⟨⟨b,p,q⟩,⟨hp,hq⟩,by rw [h,h0,h1]; rfl⟩
end
open Go.ChangeShapes Go.WideShapes Go.ChangeAt Go.RowKit
theorem De {cx:Cx} {a a' a'':AV} {v v' v'':Value} (h:Rl cx [a] [v]) (h':Rl cx [a'] [v']) (h'':Rl cx [a''] [v'']):Rl cx [a,a',a''] [v,v',v'']:=h.append (h'.append h'')
section
variable {H:Type} {enc:TypeId×Value→H} {P:Program} {w:World}
theorem DS {W:World} {r:Reach} {b:Nat} {t e:TypeId} {n:Nat} {v:Value} (ht:P.underlying t=some (.array n e)) (h:Value.okWide P W r b t v):∃vs,v = .agg vs:=by
 unfold Value.okWide at h
 rw [ht] at h
 cases v<;>first|exact ⟨_,rfl⟩|(simp [Cell.okWide,Cell.ok,ht] at h; done)
def Cq (P:Program) (t:TypeId):Bool:=match P.underlying t with
 | some (.struct _)=>true
 | some (.array _ _)=>true
 | _=>false
theorem xF {W:World} {r:Reach} {b:Nat} {t:TypeId} {v:Value} (ht:Cq P t=true) (h:Value.okWide P W r b t v):∃vs,v = .agg vs:=by
 unfold Cq at ht
 split at ht
 ·next gs k1 =>
  unfold Value.okWide at h
  rw [k1] at h
  cases v<;>first|exact ⟨_,rfl⟩|(simp [Cell.okWide,Cell.ok,k1] at h; done)
 ·next n e k1=>exact DS k1 h
 ·cases ht
theorem Dc {cx:Cx} {l:List AV} {v:Value} (ha:∃vs,v = .agg vs) (h1:∀u∈v.cells.toList,u.oneCell'=true) (h:Rl cx l v.cells.toList):Rl cx [.agg l] [v]:=by
 obtain ⟨vs,rfl⟩:=ha
 simp only [Rl,Rv]
 exact ⟨_,_,rfl,⟨_,rfl,by simpa [Value.cells] using h1,by simpa [Value.cells] using h⟩,rfl⟩
end
section
variable {H:Type} {enc:TypeId×Value→H} {w:World}
theorem Nw {g:FuncId} {fn:Func} {c:Code} {s:ChangeSpec} {t t' t'':TypeId} {l:List AV} {W:World} {v0 v1 v2:Value} {d0 d1 d2:DataW H} {p0 p1 p2:List MemPlace}
 (hf:Tryz.prog.funcs[g]?=some fn) (hb:fn.body=some c) (hname:(fn.name == "runtime.NumGoroutine")=false) (hpar:fn.params = #[t,t',t'']) (hres:fn.resultTypes = #[4]) (hvars:s.vars=[])
 (hfun:∀d d' d'':DataW H,s.fn H [d,d',d'']={ results:=[.lit (.bool true)],args:=[d,d',d''] })
 (hrd:(Tryz.prog.readableRec t && (Tryz.prog.readableRec t' && Tryz.prog.readableRec t''))=true) (hsz:t<Tryz.prog.types.size∧t'<Tryz.prog.types.size∧t''<Tryz.prog.types.size)
 (hp:ab Tryz.prog g l (.bool true)) (hrl:∀cx:Cx,cx.w=W→(∀b,¬cx.F b)→Rl cx l [v0,v1,v2])
 (h0:DataW.Trod enc Tryz.prog W 0 (fun _=>true) true t v0 d0 p0) (h1:DataW.Trod enc Tryz.prog W 0 (fun _=>true) true t' v1 d1 p1) (h2:DataW.Trod enc Tryz.prog W 0 (fun _=>true) true t'' v2 d2 p2)
 (hW:DataW.Whole enc Tryz.prog fn.params.toList s.vars false W [v0,v1,v2] [d0,d1,d2] [] (p0++(p1++p2))) :
 Calls Tryz.prog g #[v0,v1,v2] W fun e W'=>∃v,e = .returned v∧s.post enc Tryz.prog fn false true false false W #[v0,v1,v2] v W':=by
 refine (ab.calls hf hb hname hp (vs:=[v0,v1,v2]) hrl).mono fun e W' ⟨v,he,hB,cx,hw,hr⟩=>?_
 subst he
 simp only [Rv] at hr
 subst hr
 simp only [Bool.and_eq_true] at hrd
 have hlt:∀x∈p0++(p1++p2),x.block<W.heap.size:=fun x hx=>by simpa using hW.lt x hx
 refine ⟨_,rfl,[d0,d1,d2],[],p0++(p1++p2),[],p0++(p1++p2),[],hW,?_,?_,?_,hB.frame _,fun h=>by cases h⟩
 ·rw [hres,List.append_nil,hfun]
  exact trodAll_mk1 (shut_bool Tryz.underBool true)
 ·rw [hpar,List.append_nil,hfun]
  exact trodAll_mk3 (Below.trod Tryz.laidOut hrd.1 hsz.1 h0 hB fun x hx=>hlt x (List.mem_append_left _ hx)) (Below.trod Tryz.laidOut hrd.2.1 hsz.2.1 h1 hB fun x hx=>hlt x (List.mem_append_right _ (List.mem_append_left _ hx))) (Below.trod Tryz.laidOut hrd.2.2 hsz.2.2 h2 hB fun x hx=>hlt x (List.mem_append_right _ (List.mem_append_right _ hx)))
 ·rw [hvars,List.append_nil,hfun]; rfl
end
theorem C6 (p:PQ) (h:p.sz<1099511627776):ab Tryz.prog 80 [pA p,pA p] (.bool true):=by
 have:=p.sz_x; have:=p.sz_y
 have h1:=qQ p.x (by omega)
 have h2:=qQ p.y (by omega)
 refine Pg Tryz.func80 rfl [.tmp 4] rfl (by simp -implicitDefEqProofs [go_sem]) ?_
 rw [cE]
 rw [eV] at h1 h2
 simp -implicitDefEqProofs [go_sem]
 refine ag h1 ?_
 simp -implicitDefEqProofs [go_sem]
 refine ag h2 ?_
 simp -implicitDefEqProofs [go_sem]
theorem wA (l:List PQ) (hl:l.length<1099511627776) (hs:∀p∈l,p.sz<1099511627776):ab Tryz.prog 45 [pL l,pL l] (.bool true):=by
 refine Pg Tryz.func45 rfl [.tmp 4] rfl (by simp -implicitDefEqProofs [go_sem]) ?_
 unfold pL
 simp -implicitDefEqProofs [go_sem]
 refine aj 9 (α:={i:Nat // i≤l.length}) (fun i=>[(0,pL l),(1,pL l),(5,.int .i64 i.1)]) (fun i=>[]) (fun i=>l.length-i.1) ⟨0,by omega⟩ [] (by simp) (by simp) (by simp) (by simp -implicitDefEqProofs [go_sem,pL]) (by simp -implicitDefEqProofs [go_sem]) fun ⟨i,hi⟩=>?_
 simp -implicitDefEqProofs [go_sem,pL]
 intro h
 have hg:=kN h
 have es:=wS i (by omega)
 have hp:=C6 l[i] (hs _ (List.getElem_mem _))
 rw [cE] at hp
 simp -implicitDefEqProofs [go_sem,hg]
 refine ⟨h,aa hp ?_⟩
 simp -implicitDefEqProofs [go_sem,es]
 exact ae ⟨i+1,by omega⟩ (by simp only; omega) [] (by simp) (by simp) (by simp) (by simp -implicitDefEqProofs [go_sem,pL]) (by simp -implicitDefEqProofs [go_sem])
theorem F1 (l:List PQ):ro (eL l):=by unfold eL; simp only [ro]; exact cR l
theorem xY {l:List PQ} {i:Nat} (h:i<l.length):bk (l.map eA) (i:Int) = .agg (eC l[i]):=by
 simp [bk,List.getD_eq_getElem?_getD,h,bR]
theorem zo (p q:PQ) (hp:p.sz≤17179869184) (hq:q.sz≤17179869184):ab Tryz.prog 191 [eA p,eA q] (eA (p.add q)):=by
 obtain ⟨p1,p2⟩:=dH p hp
 obtain ⟨q1,q2⟩:=dH q hq
 have h1:=eF p.x q.x p1 q1
 have h2:=eF p.y q.y p2 q2
 refine Pg Tryz.func191 rfl [.cell 4 118] rfl (mT _) ?_
 simp only [bR,co] at *
 simp -implicitDefEqProofs [go_sem]
 refine aa h1 ?_
 simp -implicitDefEqProofs [go_sem]
 refine aa h2 ?_
 simp -implicitDefEqProofs [go_sem,aS,PQ.add]
theorem gK (p q:PQ) (hp:p.sz≤17179869184) (hq:q.sz≤17179869184):ab Tryz.prog 100 [eA p,eA q] (eA (p.sub q)):=by
 obtain ⟨p1,p2⟩:=dH p hp
 obtain ⟨q1,q2⟩:=dH q hq
 have h1:=lY p.x q.x p1 q1
 have h2:=lY p.y q.y p2 q2
 refine Pg Tryz.func100 rfl [.cell 4 118] rfl (mT _) ?_
 simp only [bR,co] at *
 simp -implicitDefEqProofs [go_sem]
 refine aa h1 ?_
 simp -implicitDefEqProofs [go_sem]
 refine aa h2 ?_
 simp -implicitDefEqProofs [go_sem,aS,PQ.sub]
theorem tK (p:PQ) (k:Rat) (hp:p.sz≤17179869184) (hk:sz k≤17179869184):ab Tryz.prog 253 [eA p,fA k] (eA (p.scale k)):=by
 obtain ⟨p1,p2⟩:=dH p hp
 have h1:=cD p.x k p1 hk
 have h2:=cD p.y k p2 hk
 refine Pg Tryz.func253 rfl [.cell 4 118] rfl (mT _) ?_
 simp only [bR,co] at *
 simp -implicitDefEqProofs [go_sem]
 refine aa h1 ?_
 simp -implicitDefEqProofs [go_sem]
 refine aa h2 ?_
 simp -implicitDefEqProofs [go_sem,aS,PQ.scale]
theorem jq (p q:PQ) (hp:p.sz≤4294967296) (hq:q.sz≤4294967296):ab Tryz.prog 193 [eA p,eA q] (fA (p.dot q)):=by
 obtain ⟨p1,p2⟩:=dH p hp
 obtain ⟨q1,q2⟩:=dH q hq
 have h1:=cD p.x q.x (by omega) (by omega)
 have h2:=cD p.y q.y (by omega) (by omega)
 have s1:=ce p.x q.x; have s2:=ce p.y q.y
 have h3:=eF (p.x*q.x) (p.y*q.y) (by omega) (by omega)
 rw [show p.x*q.x+p.y*q.y=p.dot q from rfl] at h3
 refine Pg Tryz.func193 rfl [.cell 4 45] rfl (fU _) ?_
 simp only [bR,co] at *
 simp -implicitDefEqProofs [go_sem]
 refine aa h1 ?_
 simp -implicitDefEqProofs [go_sem]
 refine aa h2 ?_
 simp -implicitDefEqProofs [go_sem]
 refine aa h3 ?_
 simp -implicitDefEqProofs [go_sem,aS]
theorem zC (p q:PQ) (t:Rat) (hp:p.sz≤1073741824) (hq:q.sz≤1073741824) (ht:sz t≤1073741824):ab Tryz.prog 294 [eA p,eA q,fA t] (eA (p.mix q t)):=by
 have h1:=gK q p (by omega) (by omega)
 have s1:=PQ.sz_sub q p
 have h2:=tK (q.sub p) t (by omega) (by omega)
 have s2:=PQ.sz_scale (q.sub p) t
 have h3:=zo p ((q.sub p).scale t) (by omega) (by omega)
 rw [show p.add ((q.sub p).scale t)=p.mix q t from rfl] at h3
 generalize p.mix q t=r at *
 generalize (q.sub p).scale t=u at *
 generalize q.sub p=v at *
 refine Pg Tryz.func294 rfl [.cell 6 118] rfl (mT _) ?_
 simp only [bR,co] at *
 simp -implicitDefEqProofs [go_sem]
 refine aa h1 ?_
 simp -implicitDefEqProofs [go_sem]
 refine aa h2 ?_
 simp -implicitDefEqProofs [go_sem]
 refine aa h3 ?_
 simp -implicitDefEqProofs [go_sem,aS]
theorem zv (p q:PQ) (hp:p.sz≤1073741824) (hq:q.sz≤1073741824):ab Tryz.prog 295 [eA p,eA q] (fA (p.far q)):=by
 have h1:=gK p q (by omega) (by omega)
 have s1:=PQ.sz_sub p q
 have h2:=jq (p.sub q) (p.sub q) (by omega) (by omega)
 rw [show (p.sub q).dot (p.sub q)=p.far q from rfl] at h2
 generalize p.far q=r at *
 generalize p.sub q=v at *
 refine Pg Tryz.func295 rfl [.cell 4 45] rfl (fU _) ?_
 simp only [bR,co] at *
 simp -implicitDefEqProofs [go_sem]
 refine aa h1 ?_
 simp -implicitDefEqProofs [go_sem]
 refine aa h1 ?_
 simp -implicitDefEqProofs [go_sem]
 refine aa h2 ?_
 simp -implicitDefEqProofs [go_sem,aS]
theorem vQ (l:List PQ) (hl:l.length<1099511627) (hs:∀p∈l,p.sz≤4294967296):ab Tryz.prog 78 [eL l] (pL l):=by
 refine ab.of_ca (li _) (Cg Tryz.func78 rfl [.tmp 2] rfl ?_)
 obtain ⟨V,hV⟩:∃V,V=l.map pA:=⟨_,rfl⟩
 have hVl:V.length=l.length:=by rw [hV]; simp
 have hVr:∀i,roL (V.take i):=fun i=>bB (by rw [hV]; exact c8 _)
 have hgoal:pL l = .sl 6 false V:=by rw [hV]; rfl
 rw [hgoal]
 unfold eL
 simp -implicitDefEqProofs [go_sem]
 refine aj 2 (α:={i:Nat // i≤l.length}) (fun i=>[(0,.sl 6 false (l.map eA)),(3,b9 6 1 (V.take i.1)),(4,.int .i64 i.1)]) (fun i=>dZ 6 1 (V.take i.1)) (fun i=>l.length-i.1) ⟨0,Nat.zero_le _⟩ [] (by simp) (fun _ _ _ _ h=>h) (by simp) (by simp -implicitDefEqProofs [go_sem]) (by simp -implicitDefEqProofs [go_sem]) fun ⟨i,hi⟩=>?_
 have hTl:(V.take i).length=i:=by rw [List.length_take]; omega
 have hb:V.take i≠[]→hp 2 (dZ 6 1 (V.take i)) 1 = .live 6 (V.take i):=fun h=>by rw [aJ h]; simp [hp,ar]
 simp -implicitDefEqProofs [go_sem]
 refine ⟨fun h=>?_,fun h=>?_⟩
 ·have hg:=xY h
  have es:=wS i (by omega)
  have ho:=qd l[i] (by have:=hs _ (List.getElem_mem h); omega)
  have hsc:V.take (i+1)=V.take i++[.agg (pC l[i])]:=by
   rw [List.take_succ_eq_append_getElem (by omega)]
   subst hV; simp [cE]
  have hr1:=hVr (i+1)
  rw [hsc] at hr1
  generalize l[i]=p at *
  simp only [bR,cE] at ho
  simp -implicitDefEqProofs [go_sem,hg]
  refine ⟨h,ag ho ?_⟩
  simp -implicitDefEqProofs [go_sem]
  refine bf (.inl rfl) (by omega) (by omega) (by simp -implicitDefEqProofs [go_sem]) (by simp [hTl]<;>omega) (by simp -implicitDefEqProofs [go_sem]<;>exact hb) ?_
  simp -implicitDefEqProofs [go_sem,es]
  have hn1:V.take (i+1)≠[]:=by rw [hsc]; simp
  have r1:=(renL_ro (nm [(1,3)]) _ hr1).symm
  have r2:=cloL_ro (n:=2) _ hr1
  have hl1:(V.take (i+1)).length=(V.take i).length+1:=by rw [hsc]; simp
  refine ae ⟨i+1,h⟩ (by simp only; omega) [(1,3)] (by simp) (by simp only [aJ hn1]; simp [nm]) (by simp) (by simp only [aN hn1,hl1]; simp -implicitDefEqProofs [go_sem,es]) (by simp only [aJ hn1,hsc]; simp -implicitDefEqProofs [go_sem,←r1,r2])
 ·have hii:i=l.length:=by omega
  have hTV:V.take i=V:=List.take_of_length_le (by omega)
  rw [hTV] at hb ⊢
  exact tu (by rw [hV]; exact c8 _) hb
theorem GG (h:HQ):∃cs,gA h = .agg cs∧cs.length=9∧cs.take 9=cs∧roL cs:=by
 have:=qT h
 unfold gA at this ⊢
 exact ⟨_,rfl,rfl,rfl,by simpa only [ro] using this⟩
theorem jr {l:List HQ} {i:Nat} (h:i<l.length):bk (l.map gA) (i:Int)=gA l[i]:=by
 simp [bk,List.getD_eq_getElem?_getD,h]
theorem BQ (a b t:Rat) (ha:sz a≤268435456) (hb:sz b≤268435456) (ht:sz t≤268435456) :
 ab Tryz.prog 119 [fA a,fA (1-t)] (fA (a*(1-t)))∧ab Tryz.prog 119 [fA b,fA t] (fA (b*t))∧ab Tryz.prog 199 [fA (a*(1-t)),fA (b*t)] (fA (aT a b t)):=by
 have s0:=sz_sub 1 t
 rw [iF] at s0
 have s1:=ce a (1-t)
 have s2:=ce b t
 exact ⟨cD a (1-t) (by omega) (by omega),cD b t (by omega) (by omega),eF _ _ (by omega) (by omega)⟩
theorem zK (a b:HQ) (t:Rat) (ha:a.sz≤268435456) (hb:b.sz≤268435456) (ht:sz t≤268435456):ab Tryz.prog 216 [gA a,gA b,fA t] (gA (a.mixT b t)):=by
 have h1:=bS 1 1 (by omega) (by omega) (by omega)
 rw [show ((1:Int):Rat) / ((1:Int):Rat)=1 by grind] at h1
 have h2:=lY 1 t (by rw [iF]; omega) (by omega)
 have:=a.sz_x; have:=a.sz_y; have:=a.sz_w; have:=b.sz_x; have:=b.sz_y; have:=b.sz_w
 obtain ⟨x1,x2,x3⟩:=BQ a.x b.x t (by omega) (by omega) ht
 obtain ⟨y1,y2,y3⟩:=BQ a.y b.y t (by omega) (by omega) ht
 obtain ⟨w1,w2,w3⟩:=BQ a.w b.w t (by omega) (by omega) ht
 unfold HQ.mixT
 generalize aT a.x b.x t=mx at *
 generalize aT a.y b.y t=my at *
 generalize aT a.w b.w t=mw at *
 generalize a.x*(1-t)=ax at *
 generalize a.y*(1-t)=ay at *
 generalize a.w*(1-t)=aw at *
 generalize b.x*t=bx at *
 generalize b.y*t=by' at *
 generalize b.w*t=bw at *
 generalize 1-t=u at *
 generalize (1:Rat)=one at *
 refine Pg Tryz.func216 rfl [.cell 6 222] rfl (qT _) ?_
 unfold gA fA qA at *
 simp -implicitDefEqProofs [go_sem]
 refine aa h1 ?_
 simp -implicitDefEqProofs [go_sem]
 refine aa h2 ?_
 simp -implicitDefEqProofs [go_sem]
 refine aa x1 ?_
 simp -implicitDefEqProofs [go_sem]
 refine aa x2 ?_
 simp -implicitDefEqProofs [go_sem]
 refine aa x3 ?_
 simp -implicitDefEqProofs [go_sem]
 refine aa y1 ?_
 simp -implicitDefEqProofs [go_sem]
 refine aa y2 ?_
 simp -implicitDefEqProofs [go_sem]
 refine aa y3 ?_
 simp -implicitDefEqProofs [go_sem]
 refine aa w1 ?_
 simp -implicitDefEqProofs [go_sem]
 refine aa w2 ?_
 simp -implicitDefEqProofs [go_sem]
 refine aa w3 ?_
 simp -implicitDefEqProofs [go_sem,aS]
theorem ov (l:List HQ) (hl:l.length<1099511627776):ab Tryz.prog 149 [gL l] (.bool (decide (bX l))):=by
 refine Pg Tryz.func149 rfl [.tmp 2] rfl (by simp -implicitDefEqProofs [go_sem]) ?_
 unfold gL
 simp -implicitDefEqProofs [go_sem]
 refine aj 19 (α:={i:Nat // i≤l.length∧∀h∈l.take i,0<h.w}) (fun i=>[(0,gL l),(3,.int .i64 i.1)]) (fun i=>[]) (fun i=>l.length-i.1) ⟨0,by simp⟩ [] (by simp) (by simp) (by simp) (by simp -implicitDefEqProofs [go_sem,gL]) (by simp -implicitDefEqProofs [go_sem]) fun ⟨i,hi,hw⟩=>?_
 simp -implicitDefEqProofs [go_sem,gL]
 refine ⟨fun h=>?_,fun h=>?_⟩
 ·have hg:=jr (l:=l) (i:=i) h
  have hs:=cZ l[i].w
  have es:=wS i (by omega)
  have hgt := @nF l[i].w
  generalize cP l[i].w=s at *
  simp only [gA,qA] at hg
  unfold fA qA at hs
  simp -implicitDefEqProofs [go_sem,hg]
  refine ⟨h,ag hs ?_⟩
  by_cases h0:s≤0
  ·simp -implicitDefEqProofs [go_sem,h0]
   intro hG
   have h1:=hG.1 l[i] (List.getElem_mem h)
   have:=hgt.2 h1
   omega
  ·simp -implicitDefEqProofs [go_sem,h0,es]
   refine ae ⟨i+1,Nat.succ_le_of_lt h,?_⟩ (by simp only; omega) [] (by simp) (by simp) (by simp) (by simp -implicitDefEqProofs [go_sem,gL]) (by simp -implicitDefEqProofs [go_sem])
   rw [jI h]
   exact ⟨hw,hgt.1 (by omega)⟩
 ·have hii:i=l.length:=by omega
  have hall:∀h∈l,0<h.w:=by rw [List.take_of_length_le (by omega)] at hw; exact hw
  unfold bX
  exact ⟨fun h2=>⟨fun h4=>⟨hall,by omega,by omega⟩,fun g=>by have:=g.2.2; omega⟩,fun h2 g=>by have:=g.2.1; omega⟩
theorem An (a b:Rat):aT a b dW=br a b:=by unfold aT br dW; grind
theorem Ao (a b:HQ):a.mixT b dW=a.mid b:=by unfold HQ.mixT HQ.mid; simp only [An]
theorem xp {sz:Nat} {l:List AV} (h:l≠[]):slv sz l = .sl sz false l:=by simp [slv,h]
def BK (a b:List HQ):AV := .agg [gL a,gL b]
theorem Fc (a b:List HQ):ro (BK a b):=by unfold BK; simp only [ro,roL]; exact ⟨qU a,qU b,trivial⟩
theorem GF (g:Nat) (m:List AV) {a:AV} (h:ro a):frz g m a=a:=by
 cases a<;>first|rfl|(simp only [ro] at h)
theorem yj (g:Nat) (m:List AV) {l:List AV} (h:roL l):l.map (frz g m)=l:=by
 have e:l.map (frz g m)=l.map id:=List.map_congr_left fun x hx=>GF g m (fv.1 h x hx)
 rw [e,List.map_id]
theorem vN {f:Nat→BS} {sz id:Nat} {l:List AV} (h:l≠[]→f id = .live sz l):b_ f (b9 sz id l)=some l:=by
 by_cases hl:l=[]
 ·subst hl; rfl
 ·rw [aN hl]; simp only [b_,h hl,List.drop_zero,List.take_length]
theorem zD {f:Nat→BS} {sz id:Nat} {l:List AV} (h:l≠[]→f id = .live sz l):cX f (b9 sz id l):=by
 by_cases hl:l=[]
 ·subst hl; trivial
 ·rw [aN hl]; simp only [cX,h hl]; omega
theorem Fk {sz id:Nat} {l:List AV}:rb (b9 sz id l)=sz∨l=[]:=by
 by_cases hl:l=[]
 ·exact .inr hl
 ·rw [aN hl]; exact .inl rfl
theorem zJ (v:List HQ) (hs:∀x∈v,x.sz≤1048576) (hn1:1≤v.length) (hn4:v.length≤4):ab Tryz.prog 152 [gL v] (BK (aW v.length v) (aX v.length v)):=by
 have hof:=bS 1 2 (by omega) (by omega) (by omega)
 change ab _ _ _ (fA dW) at hof
 have hrs:∀j,j≤4→∀x∈cS j v,x.sz≤268435456:=fun j hj x hx=>by
  have h1:=uO (by omega) hs j x hx
  have h2:4 ^ j≤4 ^ 4:=Nat.pow_le_pow_right (by omega) hj
  have h3:4 ^ j*1048576≤4 ^ 4*1048576:=Nat.mul_le_mul_right _ h2
  omega
 obtain ⟨n,hn⟩:∃n,n=v.length:=⟨_,rfl⟩
 refine Pg Tryz.func152 rfl [.cell 2 231] rfl (Fc _ _) ?_
 have hmix:∀x y:HQ,x.sz≤268435456→y.sz≤268435456→ab Tryz.prog 216 [gA x,gA y,fA dW] (gA (x.mid y)):=fun x y hx hy=>by
  have:=zK x y dW hx hy (by have:=sV; omega)
  rwa [Ao] at this
 obtain ⟨ch,e1,e2,e3,e4⟩:∃ch,fA dW = .agg ch∧ch.length=3∧ch.take 3=ch∧roL ch:=⟨_,rfl,rfl,rfl,by have:=fU dW; unfold fA at this; simpa only [ro] using this⟩
 have hx9:∀h:HQ,∃cs,gA h = .agg cs∧cs.length=9∧cs.take 9=cs∧roL cs:=GG
 unfold BK gL at *
 rw [e1] at hof hmix
 obtain ⟨z2,hz2,z21,z22⟩:∃z2,z2=[AV.sl 0 true [],AV.sl 0 true []]∧z2.length=2∧z2.drop 2=[]:=⟨_,rfl,rfl,rfl⟩
 simp -implicitDefEqProofs [go_sem]
 refine ai _ hof (by simp [go_sem,e4]) ?_
 simp -implicitDefEqProofs [go_sem,e2,e3]
 have hnil:∀(k:Nat),AV.agg [AV.sl 0 true [],AV.sl 0 true []]=AV.agg [b9 9 3 ((aW 0 v).map gA),b9 9 4 ((aX 0 v).map gA)]:=fun _=>rfl
 have hsl0:AV.sl 9 false (v.map gA)=slv 9 ((cS 0 v).map gA):=by rw [xp (by intro h; simp [cS] at h; rw [h] at hn1; simp at hn1)]; rfl
 refine aj 8 (α:={j:Nat // j≤n}) (fun j=>[(2,.ptr 0 0 0),(3,.ptr 1 0 0),(4,slv 9 ((cS j.1 v).map gA)),(5,.ptr 2 0 0)])
  (fun j=>[(0,.live 2 [.agg [.sl 0 true [],.sl 0 true []]]),(1,.live 3 [.agg ch]),(2,.live 2 [.agg [b9 9 3 ((aW j.1 v).map gA),b9 9 4 ((aX j.1 v).map gA)]])]++(dZ 9 3 ((aW j.1 v).map gA)++dZ 9 4 ((aX j.1 v).map gA)))
  (fun j=>n-j.1) ⟨0,by omega⟩ [] (by simp) (fun _ _ _ _ h=>h) (by omega) (by simp -implicitDefEqProofs [go_sem,←hsl0]) (by simp -implicitDefEqProofs [go_sem,aW,aX]; exact ⟨(renL_ro _ _ e4).symm,cloL_ro _ e4⟩) fun ⟨j,hj⟩=>?_
 simp only
 have hrl:=o9 j v
 have hrz:=hrs j (by omega)
 have cL1:aW (j+1) v=aW j v++[(cS j v).headD hQ0]:=rfl
 have cR1:aX (j+1) v=(cS j v).getLastD hQ0::aX j v:=rfl
 have rN1:cS (j+1) v=iy (cS j v):=rfl
 have hLl:=gH j v
 have hRl:=gJ j v
 obtain ⟨L,hL⟩:∃L,L=(aW j v).map gA:=⟨_,rfl⟩
 obtain ⟨R,hR⟩:∃R,R=(aX j v).map gA:=⟨_,rfl⟩
 have hLr:roL L:=by rw [hL]; exact gv _
 have hRr:roL R:=by rw [hR]; exact gv _
 have hLL:L.length=j:=by rw [hL]; simp [hLl]
 have hRL:R.length=j:=by rw [hR]; simp [hRl]
 rw [←hL,←hR]
 have h3:L≠[]→hp 8 (dZ 9 3 L++dZ 9 4 R) 3 = .live 9 L:=fun h=>by rw [aJ h]; simp [hp,ar]
 have h4:R≠[]→hp 8 (dZ 9 3 L++dZ 9 4 R) 4 = .live 9 R:=fun h=>by
  rw [aJ h,aJ (l:=L) (fun h'=>h (List.eq_nil_of_length_eq_zero (by rw [hRL,←hLL,h']; rfl)))]; simp [hp,ar]
 by_cases hjn:j<n
 ·have hne:(cS j v).map gA≠[]:=by intro h; have:=congrArg List.length h; simp [hrl] at this; omega
  rw [xp hne]
  obtain ⟨W,hW⟩:∃W,W=cS j v:=⟨_,rfl⟩
  rw [←hW] at hne hrl hrz cL1 cR1 rN1 ⊢
  have hWl:0<W.length:=by omega
  have hW0:W≠[]:=by intro h; rw [h] at hWl; simp at hWl
  have ew:IntKind.i64.wrap ((W.length:Int)-1)=(W.length-1:Nat):=by rw [bO (by omega)]; omega
  have hg0:=jr (l:=W) (i:=0) hWl
  have hgl:=jr (l:=W) (i:=W.length-1) (by omega)
  have hd0:W.headD hQ0=W[0]:=by cases W with|nil=>simp at hWl|cons a r=>rfl
  have hdl:W.getLastD hQ0=W[W.length-1]:=by
   rw [List.getLastD_eq_getLast?,List.getLast?_eq_getElem?,List.getElem?_eq_getElem (by omega)]; rfl
  rw [hd0] at cL1
  rw [hdl] at cR1
  obtain ⟨c0,a1,a2,a3,a4⟩:=hx9 W[0]
  obtain ⟨cl,b1,b2,b3,b4⟩:=hx9 (W[W.length-1]'(by omega))
  rw [a1] at hg0
  rw [b1] at hgl
  have hg0':bk (W.map gA) 0 = .agg c0:=hg0
  obtain ⟨w1,hw1⟩:∃w1,w1=W.length-1:=⟨_,rfl⟩
  rw [←hw1] at ew hgl
  simp -implicitDefEqProofs [go_sem,hg0',a2,a3,hW0,hWl]
  have hew:((w1:Nat):Int)<W.length:=by omega
  refine bf (.inl rfl) (by omega) (by omega) (by simp -implicitDefEqProofs [go_sem]) (by simp <;> omega) (by simp -implicitDefEqProofs [go_sem] <;> exact h3) ?_
  simp -implicitDefEqProofs [go_sem,ew,hgl,b2,b3]
  generalize hH:hp 8 (dZ 9 3 L++dZ 9 4 R)=H at *
  refine ⟨by omega,?_⟩
  rw [vN (by simp -implicitDefEqProofs [go_sem]; intro h; rw [h4 h]; rfl)]
  simp -implicitDefEqProofs [go_sem]
  refine ⟨Fk,zD (by simp -implicitDefEqProofs [go_sem]; intro h; rw [h4 h]; rfl),by omega,?_⟩
  obtain ⟨L1,hL1⟩:∃L1,L1=L++[AV.agg c0]:=⟨_,rfl⟩
  obtain ⟨R1,hR1⟩:∃R1,R1=AV.agg cl::R:=⟨_,rfl⟩
  have hLL1:L.length+1=L1.length:=by rw [hL1]; simp
  have hRL1:1+R.length=R1.length:=by rw [hR1]; simp; omega
  have hL1r:roL L1:=by rw [hL1]; exact aB.2 ⟨hLr,by simp only [roL,ro]; exact ⟨a4,trivial⟩⟩
  have hR1r:roL R1:=by rw [hR1]; simp only [roL,ro]; exact ⟨b4,hRr⟩
  have hLe:L1=(aW (j+1) v).map gA:=by rw [hL1,cL1,List.map_append,hL,List.map_singleton,a1]
  have hRe:R1=(aX (j+1) v).map gA:=by rw [hR1,cR1,List.map_cons,hR,←b1]
  rw [hLL1,hRL1,←hL1,←hR1]
  obtain ⟨M,hM⟩:∃M,M=(iy W).map gA:=⟨_,rfl⟩
  have hMl:M.length=w1:=by rw [hM]; simp [fR,hw1]
  have hMr:∀i,roL (M.take i):=fun i=>bB (by rw [hM]; exact gv _)
  have hWr:roL (W.map gA):=gv _
  clear hgl hg0 hg0'
  refine aj 8 (α:={i:Nat // i≤w1}) (fun i=>[(2,.ptr 0 0 0),(3,.ptr 1 0 0),(4,.sl 9 false (W.map gA)),(5,.ptr 2 0 0),(6,b9 9 5 (M.take i.1)),(7,.int .i64 i.1)])
   (fun i=>[(0,.live 2 [.agg [.sl 0 true [],.sl 0 true []]]),(1,.live 3 [.agg ch]),(2,.live 2 [.agg [.own 9 3 0 L1.length,.own 9 4 0 R1.length]]),(3,.live 9 L1),(4,.live 9 R1)]++dZ 9 5 (M.take i.1))
   (fun i=>w1-i.1) ⟨0,Nat.zero_le _⟩ [(3,14),(4,26)] (by simp) (by simp [nm,DQ]) (by omega) (by simp -implicitDefEqProofs [go_sem]) (by simp -implicitDefEqProofs [go_sem]; exact ⟨⟨(renL_ro _ _ e4).symm,cloL_ro _ e4⟩,⟨(renL_ro _ _ hL1r).symm,cloL_ro _ hL1r⟩,(renL_ro _ _ hR1r).symm,cloL_ro _ hR1r⟩) fun ⟨i,hi⟩=>?_
  have h5:M.take i≠[]→hp 8 (dZ 9 5 (M.take i)) 5 = .live 9 (M.take i):=fun h=>by rw [aJ h]; simp [hp,ar]
  have hTl:(M.take i).length=i:=by rw [List.length_take]; omega
  have e1:=wS i (by omega)
  obtain ⟨i1,hi1⟩:∃i1,i1=i+1:=⟨_,rfl⟩
  rw [←hi1] at e1
  simp -implicitDefEqProofs [go_sem,e1]
  refine ⟨fun h=>?_,fun h=>?_⟩
  ·have hii:i<W.length:=by omega
   have hgi:=jr (l:=W) (i:=i) hii
   have hg1:=jr (l:=W) (i:=i1) h
   have hm:=hmix W[i] W[i1] (hrz _ (List.getElem_mem _)) (hrz _ (List.getElem_mem _))
   have hMi:M[i]'(by omega)=gA (W[i].mid W[i1]):=by
    subst hM
    rw [List.getElem_map,kS W i (by omega)]
    simp only [hi1]
   have hTs:M.take i1=M.take i++[gA (W[i].mid W[i1])]:=by
    have hT:=List.take_succ_eq_append_getElem (l:=M) (i:=i) (by omega)
    rw [←hi1,hMi] at hT
    exact hT
   have hmin:min i M.length=i:=by omega
   have hT1r:=hMr i1
   obtain ⟨ca,k1,k2,k3,k4⟩:=hx9 W[i]
   obtain ⟨cb,l1,l2,l3,l4⟩:=hx9 W[i1]
   obtain ⟨cm,m1,m2,m3,m4⟩:=hx9 (W[i].mid W[i1])
   rw [k1] at hgi hm
   rw [l1] at hg1 hm
   rw [m1] at hm hTs
   rw [hTs] at hT1r
   simp -implicitDefEqProofs [go_sem,hgi,hg1,k2,k3,l2,l3,e2,e3]
   refine ⟨hii,h,aC _ hm (by simp [go_sem,k4,l4,e4]) ?_⟩
   simp -implicitDefEqProofs [go_sem,m2,m3]
   refine bf (.inl rfl) (by omega) (by omega) (by simp -implicitDefEqProofs [go_sem]) (by simp [hTl]<;>omega) (by simp -implicitDefEqProofs [go_sem]<;>exact h5) ?_
   simp -implicitDefEqProofs [go_sem,e1]
   have r1:=(renL_ro (nm [(5,21)]) _ e4).symm
   have r2:=(renL_ro (nm [(5,21)]) _ hL1r).symm
   have r3:=(renL_ro (nm [(5,21)]) _ hR1r).symm
   have r4:=(renL_ro (nm [(5,21)]) _ hT1r).symm
   have q1:=cloL_ro (n:=8) _ e4
   have q2:=cloL_ro (n:=8) _ hL1r
   have q3:=cloL_ro (n:=8) _ hR1r
   have q4:=cloL_ro (n:=8) _ hT1r
   refine ae ⟨i1,by omega⟩ (by simp only; omega) [(5,21)] (by simp) (by simp only [hTs,bh]; simp [nm]) (by simp) (by simp only [hTs]; simp -implicitDefEqProofs [go_sem,hTl,hmin]) (by simp only [hTs]; simp -implicitDefEqProofs [go_sem,←r1,←r2,←r3,←r4,q1,q2,q3,q4])
  ·have hiw:i=w1:=by omega
   have hTM:M.take i=M:=List.take_of_length_le (by omega)
   rw [hTM] at h5 ⊢
   have hMe:M=(cS (j+1) v).map gA:=by rw [rN1,hM]
   have hL1n:L1≠[]:=by intro h; rw [h] at hLL1; simp at hLL1
   have hR1n:R1≠[]:=by intro h; rw [h] at hRL1; simp at hRL1
   have hMr0:roL M:=by rw [hM]; exact gv _
   have r1:=(renL_ro (nm []) _ e4).symm
   have r2:=(renL_ro (nm []) _ hL1r).symm
   have r3:=(renL_ro (nm []) _ hR1r).symm
   have r4:=(renL_ro (nm []) _ hMr0).symm
   have q1:=cloL_ro (n:=8) _ e4
   have q2:=cloL_ro (n:=8) _ hL1r
   have q3:=cloL_ro (n:=8) _ hR1r
   have q4:=cloL_ro (n:=8) _ hMr0
   by_cases hM0:M=[]
   ·refine ae ⟨j+1,by omega⟩ (by simp only; omega) [] (by simp) (by simp only [←hLe,←hRe,aJ hL1n,aJ hR1n]; simp [nm]) (by simp) (by simp only [←hMe,←hLe,←hRe]; simp -implicitDefEqProofs [go_sem,hM0,slv]) (by simp only [←hLe,←hRe,aJ hL1n,aJ hR1n,aN hL1n,aN hR1n]; simp -implicitDefEqProofs [go_sem,←r1,←r2,←r3,q1,q2,q3,hM0])
   ·have hg5:=h5 hM0
    have hap:=aN (sz:=9) (id:=5) hM0
    refine zR 5 9 M (by simp -implicitDefEqProofs [go_sem,hg5]) ⟨j+1,by omega⟩ (by simp only; omega) [] (by simp) (by simp only [←hLe,←hRe,aJ hL1n,aJ hR1n]; simp [nm]) (by simp) (by simp only [←hMe,←hLe,←hRe,xp hM0,hap]; simp -implicitDefEqProofs [go_sem]; exact ⟨r4,q4⟩) (by simp only [←hLe,←hRe,aJ hL1n,aJ hR1n,aN hL1n,aN hR1n]; simp -implicitDefEqProofs [go_sem,←r1,←r2,←r3,q1,q2,q3,hg5,yj 5 M hL1r,yj 5 M hR1r])
 ·have hjn':j=n:=by omega
  have hnil:cS j v=[]:=List.eq_nil_of_length_eq_zero (by omega)
  have hLn:L≠[]:=by intro h; rw [h] at hLL; simp at hLL; omega
  have hRn:R≠[]:=by intro h; rw [h] at hRL; simp at hRL; omega
  have hLe:(aW v.length v).map gA=L:=by rw [hL,hjn',hn]
  have hRe:(aX v.length v).map gA=R:=by rw [hR,hjn',hn]
  rw [hLe,hRe,aN hLn,aN hRn]
  simp -implicitDefEqProofs [go_sem,hnil,slv,aS,h3 hLn,h4 hRn]
theorem nu {l:List HQ} {i:Nat} (h:i<l.length):bk (l.map gA) (i:Int) = .agg (gC l[i]):=jr h
theorem tR {l:List HQ} (h:0<l.length):bk (l.map gA) 0 = .agg (gC l[0]):=nu (i:=0) h
theorem mJ (h:HQ) (hs:h.sz≤1073741824) (h0:h.w≠0):ab Tryz.prog 150 [gA h] (eA h.P):=by
 have z1:=h.sz_x; have z2:=h.sz_y; have z3:=h.sz_w
 have h1:=lS h.x h.w (by omega) (by omega) h0
 have h2:=lS h.y h.w (by omega) (by omega) h0
 simp only [xW,bR,co] at *
 refine Pg Tryz.func150 rfl [.cell 2 118] rfl (by simp -implicitDefEqProofs [go_sem,qS]) ?_
 simp -implicitDefEqProofs [go_sem]
 refine aa h1 ?_
 simp -implicitDefEqProofs [go_sem]
 refine aa h2 ?_
 simp -implicitDefEqProofs [go_sem,aS,HQ.P]
theorem wi (p q:PQ) (hp:p.sz≤17179869184) (hq:q.sz≤17179869184):ab Tryz.prog 123 [eA p,eA q] (.bool (decide (p=q))):=by
 obtain ⟨p1,p2⟩:=dH p hp
 obtain ⟨q1,q2⟩:=dH q hq
 have h1:=dh p.x q.x p1 q1
 have h2:=dh p.y q.y p2 q2
 have e1:bW p.x q.x=0↔p.x=q.x:=by
  have a := @jp p.x q.x; have b := @dG p.x q.x
  constructor
  ·intro h; have:¬p.x<q.x:=fun hh=>by have:=a.2 hh; omega
   have:¬q.x<p.x:=fun hh=>by have:=b.2 hh; omega
   grind
  ·intro h; have:¬bW p.x q.x<0:=fun hh=>by have:=a.1 hh; grind
   have:¬0<bW p.x q.x:=fun hh=>by have:=b.1 hh; grind
   omega
 have e2:bW p.y q.y=0↔p.y=q.y:=by
  have a := @jp p.y q.y; have b := @dG p.y q.y
  constructor
  ·intro h; have:¬p.y<q.y:=fun hh=>by have:=a.2 hh; omega
   have:¬q.y<p.y:=fun hh=>by have:=b.2 hh; omega
   grind
  ·intro h; have:¬bW p.y q.y<0:=fun hh=>by have:=a.1 hh; grind
   have:¬0<bW p.y q.y:=fun hh=>by have:=b.1 hh; grind
   omega
 have hE:(p=q)=(bW p.x q.x=0∧bW p.y q.y=0):=by rw [PQ.eq_iff,e1,e2]
 simp only [hE]
 simp only [bR,co] at *
 refine Pg Tryz.func123 rfl [.tmp 4] rfl (by simp -implicitDefEqProofs [go_sem]) ?_
 simp -implicitDefEqProofs [go_sem]
 refine ag h1 ?_
 by_cases x1:bW p.x q.x=0
 ·simp -implicitDefEqProofs [go_sem,x1]
  refine ag h2 ?_
  simp -implicitDefEqProofs [go_sem]
 ·simp -implicitDefEqProofs [go_sem,x1]
def EP (p a b:PQ):PQ :=
 if a=b∨(p.sub a).dot (b.sub a)≤0 then a else if 0≤(p.sub b).dot (b.sub a) then b else a.mix b ((p.sub a).dot (b.sub a) / (b.sub a).dot (b.sub a))
theorem Hd (p a b:PQ):p.far (EP p a b)=mX p a b:=by
 have eD:(p.sub b).dot (b.sub a)=(p.sub a).dot (b.sub a)-(b.sub a).dot (b.sub a):=by unfold PQ.dot PQ.sub; simp only; grind
 have hnn:=(b.sub a).dot_nn
 by_cases hab:a=b
 ·have:(b.sub a).dot (b.sub a)=0:=by subst hab; unfold PQ.dot PQ.sub; simp only; grind
  unfold EP mX
  rw [if_pos (.inl hab),if_pos this]
 ·have hD:(b.sub a).dot (b.sub a)≠0:=fun h=>hab (by
   have:=PQ.dot0 h
   unfold PQ.sub at this
   simp only at this
   exact PQ.ext (by grind) (by grind))
  have hp:0<(b.sub a).dot (b.sub a):=by grind
  unfold EP mX
  rw [if_neg hD,eD]
  have et:(p.sub a).dot (b.sub a)=((p.sub a).dot (b.sub a) / (b.sub a).dot (b.sub a))*(b.sub a).dot (b.sub a):=by grind
  have m0:=kT a b
  have m1:=nz a b
  generalize (p.sub a).dot (b.sub a) / (b.sub a).dot (b.sub a)=t at *
  rw [et]
  generalize (b.sub a).dot (b.sub a)=d at *
  rcases (Rat.le_total:t≤0∨0≤t) with h1|h1
  ·have:t*d≤0:=by have:=Rat.mul_nonneg (show 0 ≤ -t by grind) hnn; grind
   rw [if_pos (.inr this)]
   by_cases h2:t<0
   ·rw [if_pos h2]
   ·have:t=0:=by grind
    subst this
    rw [if_neg (by grind),if_neg (by grind),m0]
  ·rcases Classical.em (t=0) with h3|h3
   ·subst h3
    rw [if_pos (.inr (by grind)),if_neg (by grind),if_neg (by grind),m0]
   ·have hpos:=Rat.mul_pos (show 0<t by grind) hp
    rw [if_neg (by intro h; rcases h with h|h<;>grind),if_neg (by grind:¬t<0)]
    rcases (Rat.le_total:t≤1∨1≤t) with h4|h4
    ·rcases Classical.em (t=1) with h5|h5
     ·subst h5
      rw [if_pos (by grind),if_neg (by grind),m1]
     ·have:=Rat.mul_pos (show 0<1-t by grind) hp
      rw [if_neg (by grind),if_neg (by grind)]
    ·have:=Rat.mul_nonneg (show 0≤t-1 by grind) hnn
     rw [if_pos (by grind)]
     rcases Classical.em (t=1) with h5|h5
     ·subst h5; rw [if_neg (by grind),m1]
     ·rw [if_pos (by grind)]
theorem rI (p a b:PQ) (hp:p.sz≤1048576) (ha:a.sz≤1048576) (hb:b.sz≤1048576):ab Tryz.prog 305 [eA p,eA a,eA b] (eA (EP p a b)):=by
 have z1:=PQ.sz_sub b a
 have z2:=PQ.sz_sub p a
 have z2':=PQ.sz_sub p b
 have z3:=PQ.sz_dot (p.sub a) (b.sub a)
 have z3':=PQ.sz_dot (p.sub b) (b.sub a)
 have z4:=PQ.sz_dot (b.sub a) (b.sub a)
 have z5:=mr ((p.sub a).dot (b.sub a)) ((b.sub a).dot (b.sub a))
 have h1:=gK b a (by omega) (by omega)
 have h2:=wi a b (by omega) (by omega)
 have h3:=gK p a (by omega) (by omega)
 have h4:=jq (p.sub a) (b.sub a) (by omega) (by omega)
 have h5:=cZ ((p.sub a).dot (b.sub a))
 have h6:=gK p b (by omega) (by omega)
 have h7:=jq (p.sub b) (b.sub a) (by omega) (by omega)
 have h8:=cZ ((p.sub b).dot (b.sub a))
 have h9:=jq (b.sub a) (b.sub a) (by omega) (by omega)
 have h10:=zC a b ((p.sub a).dot (b.sub a) / (b.sub a).dot (b.sub a)) (by omega) (by omega) (by omega)
 have hD:a≠b→(b.sub a).dot (b.sub a)≠0:=fun hab h=>hab (by
  have:=PQ.dot0 h
  unfold PQ.sub at this
  simp only at this
  exact PQ.ext (by grind) (by grind))
 have h11:=fun hab=>lS ((p.sub a).dot (b.sub a)) ((b.sub a).dot (b.sub a)) (by omega) (by omega) (hD hab)
 refine Pg Tryz.func305 rfl [.cell 6 118] rfl (mT _) ?_
 unfold EP
 generalize (p.sub a).dot (b.sub a) / (b.sub a).dot (b.sub a)=t at *
 generalize (p.sub a).dot (b.sub a)=x at *
 generalize (p.sub b).dot (b.sub a)=y at *
 generalize (b.sub a).dot (b.sub a)=d at *
 generalize p.sub a=pa at *
 generalize p.sub b=pb at *
 generalize b.sub a=ba at *
 generalize a.mix b t=mx at *
 have s1 := @iC x
 have s2 := @nE y
 simp only [bR,co] at h1 h2 h3 h4 h5 h6 h7 h8 h9 h10 h11 ⊢
 simp -implicitDefEqProofs [go_sem]
 refine ag h1 ?_
 simp -implicitDefEqProofs [go_sem]
 refine aa h2 ?_
 by_cases hab:a=b
 ·rw [if_pos (Or.inl hab:a=b∨x≤0)]
  simp -implicitDefEqProofs [go_sem,hab,aS]
 ·have h11:=h11 hab
  simp -implicitDefEqProofs [go_sem,hab]
  refine aa h3 ?_
  simp -implicitDefEqProofs [go_sem]
  refine aa h4 ?_
  simp -implicitDefEqProofs [go_sem]
  refine aa h5 ?_
  by_cases hx:x≤0
  ·simp -implicitDefEqProofs [go_sem,hx,s1.2 hx,aS]
  ·have hx':¬cP x≤0:=fun h=>hx (s1.1 h)
   simp -implicitDefEqProofs [go_sem,hx,hx']
   refine aa h6 ?_
   simp -implicitDefEqProofs [go_sem]
   refine aa h7 ?_
   simp -implicitDefEqProofs [go_sem]
   refine aa h8 ?_
   by_cases hy:0≤y
   ·have hy1:=s2.2 hy
    have hy2:¬cP y<0:=by omega
    simp -implicitDefEqProofs [go_sem,hy,hy1,hy2,aS]
   ·have hy1:¬0≤cP y:=fun h=>hy (s2.1 h)
    have hy2:cP y<0:=by omega
    simp -implicitDefEqProofs [go_sem,hy,hy1,hy2]
    refine aa h3 ?_
    simp -implicitDefEqProofs [go_sem]
    refine aa h4 ?_
    simp -implicitDefEqProofs [go_sem]
    refine aa h9 ?_
    simp -implicitDefEqProofs [go_sem]
    refine aa h11 ?_
    simp -implicitDefEqProofs [go_sem]
    refine aa h10 ?_
    simp -implicitDefEqProofs [go_sem,aS]
theorem HL {p a b:PQ} {n:Nat} (hp:p.sz≤n) (ha:a.sz≤n) (hb:b.sz≤n):(EP p a b).sz≤20*n+20:=by
 have z1:=PQ.sz_sub b a
 have z2:=PQ.sz_sub p a
 have z3:=PQ.sz_dot (p.sub a) (b.sub a)
 have z4:=PQ.sz_dot (b.sub a) (b.sub a)
 have z5:=mr ((p.sub a).dot (b.sub a)) ((b.sub a).dot (b.sub a))
 have z6:=PQ.sz_mix a b ((p.sub a).dot (b.sub a) / (b.sub a).dot (b.sub a))
 unfold EP
 split
 ·omega
 ·split<;>omega
theorem tL (p a b:PQ) (hp:p.sz≤1048576) (ha:a.sz≤1048576) (hb:b.sz≤1048576):ab Tryz.prog 265 [eA p,eA a,eA b] (fA (mX p a b)):=by
 have h1:=rI p a b hp ha hb
 have z1:=HL hp ha hb
 have h2:=zv p (EP p a b) (by omega) (by omega)
 rw [Hd] at h2
 generalize EP p a b=q at *
 refine Pg Tryz.func265 rfl [.cell 6 45] rfl (fU _) ?_
 simp only [bR,co] at *
 simp -implicitDefEqProofs [go_sem]
 refine aa h1 ?_
 simp -implicitDefEqProofs [go_sem]
 refine aa h2 ?_
 simp -implicitDefEqProofs [go_sem,aS]
theorem oz {l:List Rat} {i:Nat} (h:i<l.length):hmx l (i+1)=if hmx l i<l[i] then l[i] else hmx l i:=by
 unfold hmx
 rw [List.take_succ_eq_append_getElem h,List.foldl_append]; rfl
theorem Co {l:List Rat} {T:Rat}:∀i,i≤l.length→(hmx l i≤T↔0≤T∧∀x∈l.take i,x≤T)
 | 0,_=>by simp [hmx]
 | i+1,hi=>by
  have ih:=Co (T:=T) (l:=l) i (by omega)
  rw [oz (by omega),List.take_succ_eq_append_getElem (by omega)]
  constructor
  ·intro h
   have h1:hmx l i≤T∧l[i]≤T:=by split at h<;>grind
   have h2:=ih.1 h1.1
   refine ⟨h2.1,fun x hx=>?_⟩
   rcases List.mem_append.1 hx with hx|hx
   ·exact h2.2 x hx
   ·simp at hx; rw [hx]; exact h1.2
  ·rintro ⟨h1,h2⟩
   have h3:=ih.2 ⟨h1,fun x hx=>h2 x (List.mem_append_left _ hx)⟩
   have h4:=h2 l[i] (List.mem_append_right _ (by simp))
   split<;>assumption
theorem wp {l:List Rat} {n:Nat} (hn:1≤n) (hs:∀x∈l,sz x≤n):∀i,i≤l.length→sz (hmx l i)≤n
 | 0,_=>by unfold hmx; simp; have:=sX 0; simp [ss] at this; omega
 | i+1,hi=>by
  rw [oz (by omega)]
  split
  ·exact hs _ (List.getElem_mem _)
  ·exact wp hn hs i (by omega)
theorem Aa {v:List HQ} {tol:Rat}:hmx (cB v) v.length≤tol*tol↔cY v tol:=by
 rw [←cM v,Co _ (Nat.le_refl _),List.take_length]
 unfold cB cY
 simp only [List.mem_map,forall_exists_index,and_imp,forall_apply_eq_imp_iff₂]
 exact ⟨fun h=>h.2,fun h=>⟨jl tol,h⟩⟩
theorem FZ {v:List HQ} {n:Nat} (hs:∀h∈v,h.sz≤n):∀h∈v,h.P.sz≤2*n:=fun h hh=>by
 have:=hs h hh; have:=h.sz_P; omega
theorem zB (v:List HQ) (hG:bX v) (hs:∀h∈v,h.sz≤1024):ab Tryz.prog 215 [gL v] (fA (hmx (cB v) v.length)):=by
 have h2:=hG.2.1; have h4:=hG.2.2
 have hsv:=FZ hs
 have m1:v.headD hQ0∈v:=dR (by omega)
 have m2:v.getLastD hQ0∈v:=dj (by omega)
 have hpt:∀h∈v,ab Tryz.prog 150 [.agg (gC h)] (.agg (eC h.P)):=fun h hh=>mJ h (by have:=hs h hh; omega) (by have:=hG.1 h hh; grind)
 have p0:=hpt _ m1
 have pl:=hpt _ m2
 have hts:∀h∈v,ab Tryz.prog 265 [.agg (eC h.P),.agg (eC (v.headD hQ0).P),.agg (eC (v.getLastD hQ0).P)] (.agg (fC (mX h.P (v.headD hQ0).P (v.getLastD hQ0).P))):=fun h hh =>
  tL _ _ _ (by have:=hsv h hh; omega) (by have:=hsv _ m1; omega) (by have:=hsv _ m2; omega)
 have hgs:∀x∈cB v,sz x≤1048576:=fun x hx=>by
  unfold cB at hx
  obtain ⟨h,hh,rfl⟩:=List.mem_map.1 hx
  have:=sZ (hsv h hh) (hsv _ m1) (hsv _ m2)
  omega
 have hmz:=fun i hi=>wp (l:=cB v) (by omega) hgs i hi
 have hstep:∀i (h:i<v.length),ab Tryz.prog 232 [.agg (fC (hmx (cB v) i)),.agg (fC (mX (v[i]).P (v.headD hQ0).P (v.getLastD hQ0).P))] (.agg (fC (hmx (cB v) (i+1)))):=fun i h=>by
  have e:(cB v)[i]'(by rw [cM]; exact h)=mX (v[i]).P (v.headD hQ0).P (v.getLastD hQ0).P:=by simp [cB]
  rw [oz (by rw [cM]; exact h),e]
  exact zE _ _ (by have:=hmz i (by rw [cM]; omega); omega) (by
   have:=hgs _ (List.getElem_mem (l:=cB v) (n:=i) (by rw [cM]; exact h))
   rw [e] at this; omega)
 have hz:=bS 0 1 (by omega) (by omega) (by omega)
 rw [show ((0:Int):Rat) / ((1:Int):Rat)=0 by grind] at hz
 have h00:hmx (cB v) 0=0:=rfl
 obtain ⟨n1,hn1⟩:∃n1,n1=v.length-1:=⟨_,rfl⟩
 have e0:=tR (l:=v) (by omega)
 have eh:v[0]'(by omega)=v.headD hQ0:=by
  cases v with
  | nil=>simp at h2
  | cons a r=>rfl
 rw [eh] at e0
 have el:=nu (l:=v) (i:=n1) (by omega)
 rw [jt n1 (by omega) (by omega)] at el
 have eln:IntKind.i64.wrap ((v.length:Int)-1)=(n1:Int):=by rw [bO (by omega)]; omega
 have hlt:n1<v.length:=by omega
 have hl0:0<v.length:=by omega
 have hvn:¬v=[]:=fun h=>by rw [h] at h2; simp at h2
 simp only [co] at hz ⊢
 refine Pg Tryz.func215 rfl [.cell 2 45] rfl (by simp -implicitDefEqProofs [go_sem,lh]) ?_
 unfold gL
 generalize (v.headD hQ0).P=pa at *
 generalize (v.getLastD hQ0).P=pb at *
 generalize v.headD hQ0=a at *
 generalize v.getLastD hQ0=b at *
 simp -implicitDefEqProofs [go_sem,e0,hvn,eln,el]
 refine ⟨hl0,aa p0 ?_⟩
 simp -implicitDefEqProofs [go_sem,eln,el]
 refine ⟨hlt,aa pl ?_⟩
 simp -implicitDefEqProofs [go_sem]
 refine ag hz ?_
 simp -implicitDefEqProofs [go_sem]
 refine aj 17 (α:={i:Nat // i≤v.length}) (fun i=>[(0,.sl 9 false (v.map gA)),(2,.ptr 0 0 0),(3,.ptr 12 0 0),(4,.ptr 13 0 0),(5,.ptr 16 0 0),(6,.int .i64 i.1)])
  (fun i=>[(0,.live 3 [.agg [.bool false,.sl 0 true [],.sl 0 true []]]),(12,.live 6 [.agg (eC pa)]),(13,.live 6 [.agg (eC pb)]),(16,.live 3 [.agg (fC (hmx (cB v) i.1))])]) (fun i=>v.length-i.1) ⟨0,Nat.zero_le _⟩ [] (by simp) (by simp [nm]) (by omega) (by simp -implicitDefEqProofs [go_sem]) (by simp -implicitDefEqProofs [go_sem,h00]) fun ⟨i,hi⟩=>?_
 simp -implicitDefEqProofs [go_sem]
 refine ⟨fun h5=>?_,fun h5=>?_⟩
 ·have es:=wS i (by omega)
  have e1:=nu (l:=v) (i:=i) h5
  have f1:=hpt v[i] (List.getElem_mem _)
  have f2:=hts v[i] (List.getElem_mem _)
  have f3:=hstep i h5
  generalize mX (v[i]).P pa pb=ts at *
  generalize (v[i]).P=p at *
  generalize hmx (cB v) i=m0 at *
  obtain ⟨m1,hm1⟩:∃m1,m1=hmx (cB v) (i+1):=⟨_,rfl⟩
  rw [←hm1] at f3
  generalize v[i]=x at *
  simp -implicitDefEqProofs [go_sem,e1]
  refine ⟨by omega,aa f1 ?_⟩
  simp -implicitDefEqProofs [go_sem]
  refine aa f2 ?_
  simp -implicitDefEqProofs [go_sem]
  refine aa f3 ?_
  simp -implicitDefEqProofs [go_sem,es]
  refine ae ⟨i+1,h5⟩ (by simp only; omega) [] (by simp) (by simp [nm]) (by simp) (by simp -implicitDefEqProofs [go_sem,es]) (by simp -implicitDefEqProofs [go_sem,hm1])
 ·have hil:i=v.length:=by omega
  subst hil
  simp -implicitDefEqProofs [go_sem,aS]
theorem BA (v:List HQ) (tol:Rat) (hG:bX v) (hs:∀h∈v,h.sz≤1024) (ht:sz tol≤1024) (h0:0<tol):ab Tryz.prog 151 [gL v,fA tol] (.bool (decide (cY v tol))):=by
 have hg:=ov v (by have:=hG.2.2; omega)
 rw [decide_eq_true hG] at hg
 have hp:=zB v hG hs
 have hsg:=cZ tol
 have hm:=cD tol tol (by omega) (by omega)
 have zm:=ce tol tol
 have hsv:=FZ hs
 have hzg:sz (hmx (cB v) v.length)≤1048576:=wp (l:=cB v) (by omega) (fun x hx=>by
  unfold cB at hx
  obtain ⟨h,hh,rfl⟩:=List.mem_map.1 hx
  have hp:0<v.length:=by have:=hG.2.1; omega
  have:=sZ (hsv h hh) (hsv _ (dR hp)) (hsv _ (dj hp))
  omega) _ (by rw [cM]; exact Nat.le_refl _)
 have hc:=dh (hmx (cB v) v.length) (tol*tol) (by omega) (by omega)
 have hfl := @Aa v tol
 have hdec:decide (cY v tol)=decide (hmx (cB v) v.length≤tol*tol):=by simp only [hfl]
 rw [hdec]
 generalize hmx (cB v) v.length=g at *
 have hs0:0≤cP tol:=nE.2 (by grind)
 have hs0':¬cP tol<0:=by omega
 simp only [co] at *
 refine Pg Tryz.func151 rfl [.tmp 4] rfl (by simp -implicitDefEqProofs [go_sem]) ?_
 unfold gL at *
 simp -implicitDefEqProofs [go_sem]
 refine aa hg ?_
 simp -implicitDefEqProofs [go_sem]
 refine aa hsg ?_
 simp -implicitDefEqProofs [go_sem,hs0,hs0']
 refine aa hp ?_
 simp -implicitDefEqProofs [go_sem]
 refine aa hm ?_
 simp -implicitDefEqProofs [go_sem]
 refine aa hc ?_
 by_cases hx:g≤tol*tol
 ·have:=kE.2 hx
  simp -implicitDefEqProofs [go_sem,this,hx]
 ·have:¬bW g (tol*tol)≤0:=fun hh=>hx (kE.1 hh)
  simp -implicitDefEqProofs [go_sem,this,hx]
def sr (tol:Rat):List (List HR×Nat)→Nat
 | []=>0
 | x::L=>max (x.2+cV tol (14-x.2) (x.1.map HR.val)) (sr tol L)
theorem xt (tol:Rat) (L M:List (List HR×Nat)):sr tol (L++M)=max (sr tol L) (sr tol M):=by
 induction L with
 | nil=>simp [sr]
 | cons a L ih=>simp only [List.cons_append,sr,ih]; omega
theorem HX {tol:Rat} {x:List HR×Nat} (h:Wo tol x) (hf:¬cY (x.1.map HR.val) tol) :
 let v:=x.1.map HR.val
 sr tol [x]=max x.2 (sr tol [((aX v.length v).map hc,x.2+1),((aW v.length v).map hc,x.2+1)]):=by
 intro v
 obtain ⟨h1,h2,h3⟩:=h
 have hlt:x.2<14:=by
  rcases Nat.lt_or_ge x.2 14 with h|h
  ·exact h
  ·have e:14-x.2=0:=by omega
   rw [e] at h2
   exact absurd h2.2 hf
 have e:14-x.2=(14-(x.2+1))+1:=by omega
 have hfd:cV tol (14-(x.2+1)+1) (x.1.map HR.val)=1+max (cV tol (14-(x.2+1)) (aW v.length v)) (cV tol (14-(x.2+1)) (aX v.length v)):=by
  conv=>lhs; unfold cV
  rw [if_neg hf]
 simp only [sr,bU]
 rw [e,hfd]
 omega
structure Wr (tol:Rat) (S:List PQ) (D:Nat) (L:List (List HR×Nat)) (J:List AV) (o:List PQ) (dp:Nat):Prop where
 wo:∀x∈L,Wo tol x
 out:o++sp tol L=S
 deep:max dp (sr tol L)=D
 num:sn tol L≤32768
 one:1≤o.length
 few:S.length≤16385
 ro:roL J
def Nh (r:List PQ×Nat×Int):AV := .agg [eL r.1,.int .i64 r.2.1,.int .i64 r.2.2]
theorem zq (v:List HQ) (tol:Rat) (hs:∀h∈v,h.sz≤51) (ht:sz tol≤1024) (h0:0<tol) (hT:Tr tol 51 14 v) :
 ab Tryz.prog 72 [gL v,fA tol] (Nh ((v.headD hQ0).P::dq tol 14 v,cV tol 14 v,0)):=by
 have hG:=hT.good.1
 have h2:=hG.2.1; have h4:=hG.2.2
 have hg:=ov v (by omega)
 rw [decide_eq_true hG] at hg
 have hsg:=cZ tol
 have hs0:¬cP tol≤0:=fun hh=>by have:=iC.1 hh; grind
 have hwp:∀(x:List HQ) (h:HQ),h∈x→(∀h∈x,h.sz≤51)→bX x→ab Tryz.prog 150 [.agg (gC h)] (.agg (eC h.P)):=fun x h hh hx hxG =>
  mJ h (by have:=hx h hh; omega) (by have:=hxG.1 h hh; grind)
 have hp0:=hwp v (v.headD hQ0) (dR (by omega)) hs hG
 have hge0:=tR (l:=v) (by omega)
 have ehd:v[0]'(by omega)=v.headD hQ0:=by
  cases v with
  | nil=>simp at h2
  | cons a r=>rfl
 rw [ehd] at hge0
 have his:=fun (x:List HQ) (hx:∀h∈x,h.sz≤51) (hxG:bX x)=>BA x tol hxG (fun h hh=>by have:=hx h hh; omega) ht h0
 obtain ⟨S,hS⟩:∃S,S=(v.headD hQ0).P::dq tol 14 v:=⟨_,rfl⟩
 obtain ⟨D,hD⟩:∃D,D=cV tol 14 v:=⟨_,rfl⟩
 have hw0:Wr tol S D [(v.map hc,0)] [] [(v.headD hQ0).P] 0:=by
  refine ⟨fun x hx=>?_,?_,?_,?_,by simp,?_,trivial⟩
  ·simp at hx; subst hx
   refine ⟨by simp,by rw [bU]; exact hT,fun h hh=>?_⟩
   obtain ⟨y,hy,rfl⟩:=List.mem_map.1 hh
   exact ox (hs y hy)
  ·rw [hS]; simp only [sp,List.reverse_cons,List.reverse_nil,List.nil_append,List.flatMap_cons,List.flatMap_nil,List.append_nil,bU,Nat.sub_zero,List.singleton_append]
  ·rw [hD]; simp only [sr,Nat.sub_zero,bU]; omega
  ·have:=nt tol 14 v; simp only [sn,bU,Nat.sub_zero]; omega
  ·have:=gN tol 14 v; rw [hS]; simp; omega
 rw [←hS,←hD]
 have hpv0:pg (v.map hc,0) = .agg [.sl 9 false (v.map gA),.int .i64 0]:=by unfold pg gL; simp only [bU]; rfl
 generalize (v.headD hQ0).P=P0 at *
 generalize v.headD hQ0=hd0 at *
 clear hS hD ehd
 have hro:=qU v
 refine ab.of_ca (by unfold Nh; simp only [ro,roL]; exact ⟨F1 _,trivial,trivial,trivial⟩) (Cg Tryz.func72 rfl [.cell 4 143] rfl ?_)
 simp only [co] at *
 unfold gL at hg hro ⊢
 simp -implicitDefEqProofs [go_sem]
 refine ag hg ?_
 simp -implicitDefEqProofs [go_sem]
 refine ag hsg ?_
 simp -implicitDefEqProofs [go_sem,hs0,hge0]
 refine ⟨by omega,ag hp0 ?_⟩
 simp -implicitDefEqProofs [go_sem]
 refine aj 5 (α:={s:List (List HR×Nat)×List AV×List PQ×Nat // Wr tol S D s.1 s.2.1 s.2.2.1 s.2.2.2}) (fun s=>[(3,.ptr 0 0 0),(4,.ptr 1 0 0),(5,.ptr 3 0 0),(6,.own 2 4 0 s.1.1.length)])
  (fun s=>[(0,.live 3 [.agg (fC tol)]),(1,.live 3 [.agg [.sl 0 true [],.int .i64 0,.int .i64 0]]),(2,.live 6 (s.1.2.2.1.map eA)),(3,.live 3 [.agg [.own 6 2 0 s.1.2.2.1.length,.int .i64 s.1.2.2.2,.int .i64 0]]),(4,.live 2 (s.1.1.map pg++s.1.2.1))]) (fun s=>sn tol s.1.1) ⟨([(v.map hc,0)],[],[P0],0),hw0⟩ [] (by simp) (by simp [nm]) (by omega) (by simp -implicitDefEqProofs [go_sem]) (by simp -implicitDefEqProofs [go_sem,hpv0,bR]) fun ⟨⟨L,J,o,dp⟩,hw⟩=>?_
 simp only at hw ⊢
 obtain ⟨w1,w2,w3,w4,w5,w6,w7⟩:=hw
 have hol:o.length≤16385:=by have:=congrArg List.length w2; simp only [List.length_append] at this; omega
 have hor:roL (o.map eA):=cR _
 have hLn:=Dw tol L
 have hcs:L=[]∨∃L' x,L=L'++[x]:=by
  rcases List.eq_nil_or_concat L with h|⟨L',x,h⟩
  ·exact .inl h
  ·exact .inr ⟨L',x,by rw [h,List.concat_eq_append]⟩
 rcases hcs with rfl|⟨L',x,rfl⟩
 ·have eS:o=S:=by simpa [sp] using w2
  have eD:dp=D:=by simpa [sr] using w3
  have et:(o.map eA).take o.length=o.map eA:=List.take_of_length_le (by simp)
  subst eS eD
  simp -implicitDefEqProofs [go_sem,et,eL,Nh,aS]
  exact Wk.refl _
 ·obtain ⟨l',dx⟩:=x
  obtain ⟨v1,v2,v3⟩:=w1 (l',dx) (by simp)
  have hfl:=yO (w1 (l',dx) (by simp))
  have hct':=DG (w1 (l',dx) (by simp))
  have hcr':=HX (w1 (l',dx) (by simp))
  simp only at v1 v2 v3 hfl hct' hcr'
  have hG':=v2.good.1
  have hsv':=v2.good.2
  have hi':=his (l'.map HR.val) hsv' hG'
  have g2:=hG'.2.1; have g4:=hG'.2.2
  have hcp:=zJ (l'.map HR.val) (fun h hh=>by have:=hsv' h hh; omega) (by omega) g4
  obtain ⟨n2,hn2⟩:∃n2,n2=(l'.map HR.val).length-1:=⟨_,rfl⟩
  have hpl:=hwp (l'.map HR.val) ((l'.map HR.val).getLastD hQ0) (dj (by omega)) hsv' hG'
  have hgl:=nu (l:=l'.map HR.val) (i:=n2) (by omega)
  rw [jt n2 (by omega) hn2] at hgl
  have e2:IntKind.i64.wrap (((l'.map HR.val).length:Int)-1)=(n2:Int):=by rw [bO (by omega)]; omega
  have eL':IntKind.i64.wrap (L'.length:Int)=L'.length:=by
   simp only [List.length_append,List.length_singleton] at hLn
   exact bO (by omega)
  obtain ⟨M,hM⟩:∃M,M=(L'++[(l',dx)]).map pg++J:=⟨_,rfl⟩
  have hMl:L'.length<M.length:=by rw [hM]; simp
  have hMx:M[L'.length]'hMl=pg (l',dx):=by
   subst hM; simp
  have hMt:M.take L'.length=L'.map pg:=by rw [hM]; simp
  rw [←hM]
  have hpr:roL (L'.map pg):=w_ _
  have hpx:=yF (l',dx)
  have hl1:n2<(l'.map HR.val).length:=by omega
  unfold pg gL at hMx
  unfold BK gL at hcp
  unfold gL at hi'
  simp only at hMx
  generalize hvv:l'.map HR.val=v' at *
  obtain ⟨dm,hdm0⟩:∃dm,dm=max dp dx:=⟨_,rfl⟩
  have hdm:(if dp<dx then (dx:Int) else (dp:Int))=(dm:Int):=by split<;>omega
  simp -implicitDefEqProofs [go_sem,eL',hMx,hMl,hdm]
  refine ⟨by omega,by omega,ag hi' ?_⟩
  by_cases hf:cY v' tol
  ·obtain ⟨f1,f2,f3⟩:=hfl hf
   clear hct' hcp hcr'
   have n1:¬1048576≤(o.length:Int):=by omega
   have hw':Wr tol S D L' (pg (l',dx)::J) (o++[(v'.getLastD hQ0).P]) dm:=by
    refine ⟨fun x hx=>w1 x (by simp [hx]),?_,?_,?_,by simp,w6,?_⟩
    ·rw [←w2,mq]
     have:sp tol [(l',dx)]=[(v'.getLastD hQ0).P]:=by simp [sp,hvv,f1]
     rw [this,List.append_assoc]
    ·rw [←w3,xt]
     have:sr tol [(l',dx)]=dx:=by simp [sr,hvv,f2]
     rw [this,hdm0]; omega
    ·have:=fl tol L' [(l',dx)]; omega
    ·simp only [roL]; exact ⟨yF _,w7⟩
   have hn:sn tol L'<sn tol (L'++[(l',dx)]):=by
    rw [fl]
    have:=ol tol (14-dx) (l'.map HR.val)
    simp only [sn]; omega
   have hMe:M=L'.map pg++pg (l',dx)::J:=by rw [hM]; simp
   have hMr:roL M:=by rw [hMe]; exact aB.2 ⟨w_ _,by simp only [roL]; exact ⟨yF _,w7⟩⟩
   generalize v'.getLastD hQ0=lq at *
   simp -implicitDefEqProofs [go_sem,hf,n1,e2,hgl]
   refine ⟨by omega,aa hpl ?_⟩
   generalize lq.P=p at *
   have hor':roL ((o++[p]).map eA):=cR _
   have heo:(o++[p]).map eA=o.map eA++[.agg (eC p)]:=by simp [bR]
   have het:(o.map eA).take o.length=o.map eA:=List.take_of_length_le (by simp)
   rw [heo] at hor'
   have z1:=(renL_ro (nm [(2,18)]) _ hor').symm
   have z2:=cloL_ro (n:=5) _ hor'
   have z3:=(renL_ro (nm [(2,18)]) _ hMr).symm
   have z4:=cloL_ro (n:=5) _ hMr
   simp -implicitDefEqProofs [go_sem,het]
   refine ⟨by omega,?_⟩
   refine ae ⟨(L',pg (l',dx)::J,o++[p],dm),hw'⟩ hn [(2,18)] (by simp) (by simp [nm]) (by simp) (by simp -implicitDefEqProofs [go_sem]) (by simp only [heo,←hMe]; simp -implicitDefEqProofs [go_sem,←z1,z2,←z3,z4])
  ·obtain ⟨c1,c2,c3,c4,c5⟩:=hct' hf
   have c4:=hcr' hf
   clear hfl hct' hcr'
   have n1:¬64≤(dx:Int):=by omega
   have edx:=wS dx (by omega)
   have hw':Wr tol S D (L'++[((aX v'.length v').map hc,dx+1),((aW v'.length v').map hc,dx+1)]) [] o dm:=by
    refine ⟨fun x hx=>?_,?_,?_,?_,w5,w6,trivial⟩
    ·simp only [List.mem_append,List.mem_cons,List.not_mem_nil,or_false] at hx
     rcases hx with hx|rfl|rfl
     ·exact w1 x (by simp [hx])
     ·exact c2
     ·exact c1
    ·rw [←w2,mq,mq,c3]
    ·rw [←w3,xt,xt,c4,hdm0]; omega
    ·have h1:=fl tol L' [(l',dx)]
     have h2:=fl tol L' [((aX v'.length v').map hc,dx+1),((aW v'.length v').map hc,dx+1)]
     omega
   have hn:sn tol (L'++[((aX v'.length v').map hc,dx+1),((aW v'.length v').map hc,dx+1)])<sn tol (L'++[(l',dx)]):=by
    rw [fl,fl,c5]; omega
   have hLb:L'.length≤32768:=by simp only [List.length_append,List.length_singleton] at hLn; omega
   have hMn:(L'++[((aX v'.length v').map hc,dx+1),((aW v'.length v').map hc,dx+1)]).map pg=L'.map pg++[.agg [.sl 9 false ((aX v'.length v').map gA),.int .i64 (dx+1:Nat)],.agg [.sl 9 false ((aW v'.length v').map gA),.int .i64 (dx+1:Nat)]]:=by
    simp only [List.map_append,List.map_cons,List.map_nil,pg,bU,gL]
   have hMr:roL ((L'++[((aX v'.length v').map hc,dx+1),((aW v'.length v').map hc,dx+1)]).map pg):=w_ _
   rw [hMn] at hMr
   clear c1 c2 c3 c4 c5
   have z1:=(renL_ro (nm [(4,8)]) _ hor).symm
   have z2:=cloL_ro (n:=5) _ hor
   have z3:=(renL_ro (nm [(4,8)]) _ hMr).symm
   have z4:=cloL_ro (n:=5) _ hMr
   simp -implicitDefEqProofs [go_sem,hf,n1]
   refine ag hcp ?_
   simp -implicitDefEqProofs [go_sem,edx,hMt]
   refine ⟨by omega,by omega,?_⟩
   refine ae ⟨(L'++[((aX v'.length v').map hc,dx+1),((aW v'.length v').map hc,dx+1)],[],o,dm),hw'⟩ hn [(4,8)] (by simp) (by simp [nm]) (by simp) (by simp -implicitDefEqProofs [go_sem]) (by simp only [hMn,List.append_nil]; simp -implicitDefEqProofs [go_sem,←z1,z2,←z3,z4]; exact ⟨(renL_ro _ _ hpr).symm,cloL_ro _ hpr⟩)
theorem DY {x y:Rat}:0≤bW x y↔y≤x:=by
 have := @jp x y
 constructor
 ·intro h
  have:¬x<y:=fun h2=>by have:=this.2 h2; omega
  grind
 ·intro h
  have:¬bW x y<0:=fun h2=>by have:=this.1 h2; grind
  omega
theorem n8 (p q:PQ) (hp:p.sz≤4294967296) (hq:q.sz≤4294967296):ab Tryz.prog 123 [eA p,eA q] (.bool (decide (p=q))):=by
 obtain ⟨p1,p2⟩:=dH p hp
 obtain ⟨q1,q2⟩:=dH q hq
 have h1:=dh p.x q.x (by omega) (by omega)
 have h2:=dh p.y q.y (by omega) (by omega)
 have hz:∀a b:Rat,bW a b=0↔a=b:=fun a b=>by
  have a1 := @DY a b
  have a2 := @kE a b
  constructor
  ·intro h
   have:=a1.1 (by omega); have:=a2.1 (by omega)
   grind
  ·intro h
   have:=a1.2 (by grind); have:=a2.2 (by grind)
   omega
 have z1:=hz p.x q.x
 have z2:=hz p.y q.y
 have he:decide (p=q)=(decide (bW p.x q.x=0) && decide (bW p.y q.y=0)):=by
  rw [←Bool.decide_and,decide_eq_decide,z1,z2]
  exact PQ.eq_iff ..
 rw [he]
 generalize bW p.x q.x=c1 at *
 generalize bW p.y q.y=c2 at *
 refine Pg Tryz.func123 rfl [.tmp 4] rfl (by simp -implicitDefEqProofs [go_sem]) ?_
 simp only [bR,co] at *
 simp -implicitDefEqProofs [go_sem]
 refine ag h1 ?_
 by_cases a:c1=0
 ·simp -implicitDefEqProofs [go_sem,a]
  refine ag h2 ?_
  simp -implicitDefEqProofs [go_sem]
 ·simp -implicitDefEqProofs [go_sem,a]
section
variable {H:Type} {enc:TypeId×Value→H} {w:World}
def AA (l:List AV):Prop:=∃z:RQ,z.Lm∧l=z.cs
end
def Iu (l:List PQ) (closed:Bool):AV := .agg [eL l,.bool closed]
theorem Ht (l:List PQ) (closed:Bool):ro (Iu l closed):=by unfold Iu; simp only [ro,roL]; exact ⟨F1 l,trivial,trivial⟩
theorem tF (L:List PQ) (closed:Bool) (hl:L.length≤1048576) (hv:∀p∈L,p.sz≤4294967296):ab Tryz.prog 54 [Iu L closed] (Iu (bz L closed) closed):=by
 refine ab.of_ca (Ht _ _) (Cz Tryz.func54 rfl [.cell 2 59] rfl ?_)
 have hr:=cR L
 have hPl:(L.map eA).length=L.length:=by simp
 have hg0:∀i (h:i<L.length),bk (L.map eA) (i:Int) = .agg (eC L[i]):=fun i h=>xY h
 unfold Iu eL
 have hR:∀m:List PQ,roL (m.map eA):=cR
 generalize hU:L.map eA=U at *
 simp -implicitDefEqProofs [go_sem]
 have c0:aR []=[]:=rfl
 refine aj 3 (α:={i:Nat // i≤L.length}) (fun i=>[(1,.ptr 0 0 0),(2,.ptr 1 0 0),(3,b9 6 2 ((aR (L.take i.1)).map eA)),(4,.int .i64 i.1)]) (fun i=>[(0,.live 2 [.agg [.sl 6 false U,.bool closed]]),(1,.live 2 [.agg [.sl 0 true [],.bool false]])]++dZ 6 2 ((aR (L.take i.1)).map eA)) (fun i=>L.length-i.1) ⟨0,Nat.zero_le _⟩ [] (by simp) (fun _ _ _ _ h=>h) (by simp) (by simp -implicitDefEqProofs [go_sem,c0,b9]) (by simp -implicitDefEqProofs [go_sem,c0,dZ,renL_ro (nm []) _ hr,cloL_ro (n:=3) _ hr]) fun ⟨i,hi⟩=>?_
 simp only
 have hCl:=iS (L.take i)
 rw [List.length_take] at hCl
 have hCm:∀p∈aR (L.take i),p.sz≤4294967296:=fun p hp=>hv p (List.mem_of_mem_take (kG _ p hp))
 have hWr:=hR (aR (L.take i))
 have hWl:((aR (L.take i)).map eA).length=(aR (L.take i)).length:=by simp
 have hWg:∀j (h:j<(aR (L.take i)).length) (h2:j<((aR (L.take i)).map eA).length),((aR (L.take i)).map eA)[j] = .agg (eC (aR (L.take i))[j]):=fun j h _=>by rw [List.getElem_map]; rfl
 by_cases h:i<L.length
 ·have a1:(i:Int)<L.length:=by omega
  have hg:=hg0 i h
  have es:=wS i (by omega)
  have hst:=p9 (L.take i) L[i]
  rw [←List.take_succ_eq_append_getElem h] at hst
  have zx:=hv _ (List.getElem_mem h)
  generalize hC:aR (L.take i)=C at *
  generalize L[i]=x at *
  generalize hW:C.map eA=W at *
  by_cases hn:C=[]
  ·have hWn:W=[]:=by rw [←hW,hn]; rfl
   have hst2:aR (L.take (i+1))=[x]:=by rw [hst,hn]; rfl
   subst hWn
   have eb:dZ 6 2 []=[]:=rfl
   simp only [jo,eb,List.append_nil]
   simp -implicitDefEqProofs [go_sem,a1,h,hPl]
   refine az (by kernel_rfl) ?_
   simp -implicitDefEqProofs [go_sem,h,a1,hPl,hg]
   have hn1:(aR (L.take (i+1))).map eA≠[]:=by rw [hst2]; simp
   have hl1:((aR (L.take (i+1))).map eA).length=1:=by rw [hst2]; rfl
   refine ae ⟨i+1,h⟩ (by simp only; omega) [(2,22)] (by simp) (by simp only [aJ hn1]; simp [nm]) (by simp) (by simp only [aN hn1,hl1]; simp -implicitDefEqProofs [go_sem,es]) (by simp only [aJ hn1]; rw [hst2]; simp -implicitDefEqProofs [go_sem,bR,renL_ro (nm [(2,22)]) _ hr,cloL_ro (n:=3) _ hr])
  ·have hn0:0<C.length:=by have:=mt List.length_eq_zero_iff.1 hn; omega
   have hWn:W≠[]:=by rw [←hW]; simpa using hn
   obtain ⟨k,hk⟩:∃k,C.length=k+1:=⟨C.length-1,by omega⟩
   have hlast:C.getLast?=some (C[k]'(by omega)):=by rw [List.getLast?_eq_getElem?]; simp only [hk,Nat.add_sub_cancel]; exact List.getElem?_eq_getElem _
   have b1:k<W.length:=by omega
   have gk:=hWg k (by omega) b1
   have zk:=hCm _ (List.getElem_mem (show k<C.length by omega))
   rw [hlast] at hst
   generalize C[k]'(by omega)=c at *
   have ks:=n8 c x (by omega) (by omega)
   have wk:IntKind.i64.wrap (k:Int)=k:=by rw [bO (by omega)]
   have ck:(k:Int)<(k:Int)+1:=by omega
   have hk0:¬(k:Int)+1=0:=by omega
   simp only [aN hWn,aJ hWn,bR] at *
   have hWk:W.length=k+1:=by omega
   simp -implicitDefEqProofs [go_sem,a1,h,hPl]
   refine az (by kernel_rfl) ?_
   simp -implicitDefEqProofs [go_sem,h,a1,hPl,hg,hWk,wk,ck,gk,hk0,b1]
   refine aC _ ks (by simp [go_sem]) ?_
   by_cases e:c=x
   ·rw [if_pos (by rw [e]),List.append_nil] at hst
    simp -implicitDefEqProofs [go_sem,e,es]
    exact ae ⟨i+1,h⟩ (by simp only; omega) [] (by simp) (fun _ _ _ _ h=>h) (by simp) (by simp only [hst,hW,aN hWn,hWk]; simp -implicitDefEqProofs [go_sem]) (by simp only [hst,hW,aJ hWn]; simp -implicitDefEqProofs [go_sem,renL_ro (nm []) _ hr,cloL_ro (n:=3) _ hr,renL_ro (nm []) _ hWr,cloL_ro (n:=3) _ hWr])
   ·rw [if_neg (fun he=>e (Option.some.inj he))] at hst
    have hn1:(aR (L.take (i+1))).map eA≠[]:=by rw [hst]; simp
    have hW2:(aR (L.take (i+1))).map eA=W++[.agg (eC x)]:=by rw [hst,List.map_append,hW]; rfl
    have hl1:((aR (L.take (i+1))).map eA).length=k+2:=by rw [hW2,List.length_append,hWk]; rfl
    have hr2:=hR (aR (L.take (i+1)))
    rw [hW2] at hr2
    simp -implicitDefEqProofs [go_sem,e,h,a1,hPl,hg]
    have hWt:W.take (k+1)=W:=List.take_of_length_le (by omega)
    rw [hWt]
    refine ⟨by omega,by omega,?_⟩
    exact ae ⟨i+1,h⟩ (by simp only; omega) [(2,22)] (by simp) (by simp only [aJ hn1]; simp [nm]) (by simp) (by simp only [aN hn1,hl1]; simp -implicitDefEqProofs [go_sem,es]) (by simp only [aJ hn1,hW2]; simp -implicitDefEqProofs [go_sem,renL_ro (nm [(2,22)]) _ hr,cloL_ro (n:=3) _ hr,renL_ro (nm [(2,22)]) _ hr2,cloL_ro (n:=3) _ hr2])
 ·have hii:i=L.length:=by omega
  have a1:¬(i:Int)<L.length:=by omega
  have hTL:L.take i=L:=List.take_of_length_le (by omega)
  clear hWg hCl
  simp only [hTL] at hCm hWr hWl ⊢
  have hCl:=iS L
  have hWg:∀j (h:j<(aR L).length) (h2:j<((aR L).map eA).length),((aR L).map eA)[j] = .agg (eC (aR L)[j]):=fun j h _=>by rw [List.getElem_map]; rfl
  by_cases hn:aR L=[]
  ·have hq:bz L closed=[]:=by
    have:=pX L closed
    cases hc:bz L closed with
    | nil=>rfl
    | cons a l =>
     have h1:a∈aR L:=by
      unfold bz at hc
      split at hc
      ·exact mz _ _ a (by rw [hc]; exact List.mem_cons_self)
      ·rw [hc]; exact List.mem_cons_self
     rw [hn] at h1; cases h1
   have eb:dZ 6 2 []=[]:=rfl
   have wkn:Wk (.agg [.sl 0 true [],.bool closed]) (.agg [.sl 6 false [],.bool closed]):=Wk.agg (.cons (Wk.nil 0 6 true) (.cons (Wk.refl _) .nil))
   rw [hn,hq]
   simp only [List.map_nil,jo,eb,List.append_nil]
   simp -implicitDefEqProofs [go_sem,a1,hPl]
   refine aj 3 (α:=Unit) (fun _=>[(1,.ptr 0 0 0),(2,.ptr 1 0 0),(3,.sl 0 true [])]) (fun _=>[(0,.live 2 [.agg [.sl 6 false U,.bool closed]]),(1,.live 2 [.agg [.sl 0 true [],.bool false]])]) (fun _=>0) () [] (by simp) (fun _ _ _ _ h=>h) (by simp) (by simp -implicitDefEqProofs [go_sem]) (by simp -implicitDefEqProofs [go_sem,renL_ro (nm []) _ hr,cloL_ro (n:=3) _ hr]) fun _=>?_
   have c2:¬(1:Int)<0:=by omega
   simp -implicitDefEqProofs [go_sem]
   refine az (by kernel_rfl) ?_
   cases closed
   ·simp -implicitDefEqProofs [go_sem,aS]
    exact wkn
   ·simp -implicitDefEqProofs [go_sem,c2,aS]
    exact wkn
  ·generalize hC:aR L=C at *
   generalize hW:C.map eA=W at *
   have hn0:0<C.length:=by have:=mt List.length_eq_zero_iff.1 hn; omega
   have hWn:W≠[]:=by rw [←hW]; simpa using hn
   have hWt:∀m,W.take m=(C.take m).map eA:=fun m=>by rw [←hW,List.map_take]
   simp only [aN hWn,aJ hWn]
   simp -implicitDefEqProofs [go_sem,a1,hPl]
   refine aj 3 (α:={p:Nat×Nat // p.1≤C.length∧p.1≤p.2∧(closed=true→bz L closed=fX p.2 (C.take p.1))∧(closed=false→p.1=C.length)}) (fun p=>[(1,.ptr 0 0 0),(2,.ptr 1 0 0),(3,.own 6 2 0 p.1.1)])
    (fun p=>[(0,.live 2 [.agg [.sl 6 false U,.bool closed]]),(1,.live 2 [.agg [.sl 0 true [],.bool false]]),(2,.live 6 W)]) (fun p=>p.1.1) ⟨(C.length,L.length),Nat.le_refl _,by omega,fun h=>by rw [List.take_length,←hC]; unfold bz; rw [if_pos h],fun _=>rfl⟩ [] (by simp) (fun _ _ _ _ h=>h) (by simp) (by simp -implicitDefEqProofs [go_sem,hWl]) (by simp -implicitDefEqProofs [go_sem,renL_ro (nm []) _ hr,cloL_ro (n:=3) _ hr,renL_ro (nm []) _ hWr,cloL_ro (n:=3) _ hWr]) fun ⟨(m,g),hm,hmg,htr,hcf⟩=>?_
   simp only at hm hmg htr hcf
   cases closed
   ·have e:=hcf rfl
    subst e
    simp -implicitDefEqProofs [go_sem]
    refine az (by kernel_rfl) ?_
    simp -implicitDefEqProofs [go_sem,aS]
    refine ⟨by omega,bB hWr,?_⟩
    rw [hWt,List.take_length]
    unfold bz
    rw [if_neg (by decide),hC]
    exact Wk.refl _
   ·have htr:=htr rfl
    have wkm:Wk (.agg [.sl 6 false (W.take m),.bool true]) (.agg [.sl 6 false ((C.take m).map eA),.bool true]):=by rw [hWt]; exact Wk.refl _
    by_cases c1:1<m
    ·obtain ⟨k,rfl⟩:∃k,m=k+1:=⟨m-1,by omega⟩
     have c2:(1:Int)<(k:Int)+1:=by omega
     have b0:0<W.length:=by omega
     have b1:k<W.length:=by omega
     have g0:=hWg 0 (by omega) b0
     have g1:=hWg k (by omega) b1
     have z0:=hCm _ (List.getElem_mem (show 0<C.length by omega))
     have z1:=hCm _ (List.getElem_mem (show k<C.length by omega))
     have ksm:=n8 (C[k]'(by omega)) (C[0]'(by omega)) (by omega) (by omega)
     rw [bR,bR] at ksm
     have w1:IntKind.i64.wrap (k:Int)=k:=by rw [bO (by omega)]
     have c3:(0:Int)<(k:Int)+1:=by omega
     have hk1:1≤k:=by omega
     have c4:(k:Int)<(k:Int)+1:=by omega
     have hkl:(k:Int)≤(k:Int)+1:=by omega
     have hkn:k≤W.length:=by omega
     by_cases e:C[k]'(by omega)=C[0]'(by omega)
     ·have hst:=nU (f:=g-1) hm c1 (by simpa using e.symm)
      rw [show g-1+1=g by omega,Nat.add_sub_cancel] at hst
      rw [hst] at htr
      simp -implicitDefEqProofs [go_sem]
      refine az (by kernel_rfl) ?_
      simp -implicitDefEqProofs [go_sem,c2,c3,c4,b0,b1,g0,g1,w1]
      refine aC _ ksm (by simp [go_sem]) ?_
      simp -implicitDefEqProofs [go_sem,e,c2,c3,w1,hkl,hkn]
      exact ae ⟨(k,g-1),by omega,by omega,fun _=>htr,fun h=>by cases h⟩ (by simp only; omega) [] (by simp) (fun _ _ _ _ h=>h) (by simp) (by simp -implicitDefEqProofs [go_sem]) (by simp -implicitDefEqProofs [go_sem,renL_ro (nm []) _ hr,cloL_ro (n:=3) _ hr,renL_ro (nm []) _ hWr,cloL_ro (n:=3) _ hWr])
     ·have hst:=ir (f:=g) hm (fun h=>e (by simpa using (h.2 h.1).symm))
      rw [hst] at htr
      rw [←htr] at wkm
      simp -implicitDefEqProofs [go_sem]
      refine az (by kernel_rfl) ?_
      simp -implicitDefEqProofs [go_sem,c2,c3,c4,b0,b1,g0,g1,w1]
      refine aC _ ksm (by simp [go_sem]) ?_
      simp -implicitDefEqProofs [go_sem,e,c2,c3,w1,hm,aS]
      exact ⟨by omega,bB hWr,wkm⟩
    ·have c2:¬(1:Int)<(m:Int):=by omega
     have hst:=ir (f:=g) hm (fun h=>c1 h.1)
     rw [hst] at htr
     rw [←htr] at wkm
     simp -implicitDefEqProofs [go_sem]
     refine az (by kernel_rfl) ?_
     simp -implicitDefEqProofs [go_sem,c2,aS]
     exact ⟨by omega,bB hWr,wkm⟩
theorem tM (p:PQ) (w:Rat) (hp:p.sz≤1000000) (hw:sz w≤1000000):ab Tryz.prog 148 [eA p,fA w] (gA (HQ.wt p w)):=by
 have h1:=p.sz_x
 have h2:=p.sz_y
 have k1:=cD p.x w (by omega) (by omega)
 have k2:=cD p.y w (by omega) (by omega)
 have e:gA (HQ.wt p w) = .agg (fC (p.x*w)++(fC (p.y*w)++fC w)):=rfl
 have ep:eA p = .agg (fC p.x++fC p.y):=rfl
 rw [e,ep]
 refine Pg Tryz.func148 rfl [.cell 4 222] rfl (by simp -implicitDefEqProofs [go_sem,lh,aB]) ?_
 generalize p.x*w=x at *
 generalize p.y*w=y at *
 simp only [co] at *
 simp -implicitDefEqProofs [go_sem]
 refine aa k1 ?_
 simp -implicitDefEqProofs [go_sem]
 refine aa k2 ?_
 have d3:∀a:Rat,∀l:List AV,List.drop 3 (fC a++l)=l:=fun a l=>rfl
 have d9:∀a b c:Rat,List.drop 9 (fC a++(fC b++fC c))=[]:=fun a b c=>rfl
 have e6:∀a:Rat,List.drop 6 (fC a++[AV.bool false,.sl 0 true [],.sl 0 true [],.bool false,.sl 0 true [],.sl 0 true []])=[AV.bool false,.sl 0 true [],.sl 0 true []]:=fun a=>rfl
 have t6:∀a b:Rat,List.take 6 (fC a++(fC b++[AV.bool false,.sl 0 true [],.sl 0 true []]))=fC a++fC b:=fun a b=>rfl
 have f9:∀a b:Rat,List.drop 9 (fC a++(fC b++[AV.bool false,.sl 0 true [],.sl 0 true []]))=[]:=fun a b=>rfl
 have l9:∀a b c:Rat,List.take 9 (fC a++(fC b++fC c))=fC a++(fC b++fC c):=fun a b c=>rfl
 have hro:roL (fC x++(fC y++fC w)):=by simp -implicitDefEqProofs [go_sem,lh,aB]
 simp -implicitDefEqProofs [go_sem,aS,d3,d9,e6,t6,f9,l9,viewL_ro _ _ hro,fitsL_ro _ _ hro]
def iW (s:Sg) (sx:Int):Int:=if s.k=1∨s.k=2 then s.v 0 else if s.k=3∨s.k=5 then s.v 2 else if s.k=4 then s.v 4 else sx
def iX (s:Sg) (sy:Int):Int:=if s.k=1∨s.k=2 then s.v 1 else if s.k=3∨s.k=5 then s.v 3 else if s.k=4 then s.v 5 else sy
theorem tG (s:Sg) (hg:s.Good) (sx sy:Int):ab Tryz.prog 73 [s.av,.int .i64 sx,.int .i64 sy] (.tup [.int .i64 (iW s sx),.int .i64 (iX s sy)]):=by
 have e:s.av = .agg [.int .i64 s.k,.int .i64 (s.v 0),.int .i64 (s.v 1),.int .i64 (s.v 2),.int .i64 (s.v 3),.int .i64 (s.v 4),.int .i64 (s.v 5),.int .i64 s.w]:=rfl
 have k1:=hg.k1
 have k6:=hg.k6
 rw [e]
 refine Pg Tryz.func73 rfl [.tmp 6,.tmp 7] rfl (by simp -implicitDefEqProofs [go_sem]) ?_
 unfold iW iX
 rcases (by omega:s.k=1∨s.k=2∨s.k=3∨s.k=4∨s.k=5∨s.k=6) with h|h|h|h|h|h<;>simp only [h]<;>simp -implicitDefEqProofs [go_sem]
theorem zp (f : PQ) (s : Sg) (m : MQ) (hf : f.sz ≤ 1) (hg : s.Good) (h1 : s.k ≠ 1) (h6 : s.k ≠ 6) (hm : sz m.a ≤ 6 ∧ sz m.b ≤ 6 ∧ sz m.c ≤ 6 ∧ sz m.d ≤ 6 ∧ sz m.e ≤ 6 ∧ sz m.f ≤ 6) (happ : ∀ q : PQ, q.sz ≤ 1 → (m.app q).sz ≤ 100) : ab Tryz.prog 71 [eA f, s.av, vP m] (.tup [gL (bQ f s m), .int .i64 0]) := by
  have hm1 : sz m.a ≤ 1000 ∧ sz m.b ≤ 1000 ∧ sz m.c ≤ 1000 ∧ sz m.d ≤ 1000 ∧ sz m.e ≤ 1000 ∧ sz m.f ≤ 1000 := by omega
  have k2 : 2 ≤ s.k := by have := hg.k1; omega
  have k5 : s.k ≤ 5 := by have := hg.k6; omega
  have one := bS 1 1 (by omega) (by omega) (by omega)
  rw [show ((1 : Int) : Rat) / ((1 : Int) : Rat) = 1 by grind] at one
  have hap0 := qb m f (n := 1000) (by omega) hm1 (by omega)
  have hav : vP m = .agg (lQ m) := rfl
  have mro := oX m
  have mlen : (lQ m).length = 18 := rfl
  have mtk : (lQ m).take 18 = lQ m := rfl
  have kfr := fun v hv => bS v 64 hv (by omega) (by omega)
  simp only [show ((64 : Int) : Rat) = 64 from rfl] at kfr
  have hpl := ml s.k
  have k64 := fun (x y : Int) hx hy => jZ m x y hx hy hm1
  have kh := fun (q : PQ) (w : Rat) (hq : q.sz ≤ 100) (hw : sz w ≤ 1) => tM q w (by omega) (by omega)
  have hw1 := iF
  obtain ⟨V, hV⟩ : ∃ V, V = (bQ f s m).map gA := ⟨_, rfl⟩
  have hVl : V.length = dX s.k + 1 := by rw [hV, List.length_map, kH]
  have hVr : roL V := by rw [hV]; exact bC qT
  have hT1 : V.take 1 = [gA (HQ.wt (m.app f) 1)] := by
    subst hV; rfl
  have hVs : ∀ i, i < dX s.k → V.take (i + 1 + 1) = V.take (i + 1) ++ [gA (nT s m i)] := fun i h => by
    rw [List.take_succ_eq_append_getElem (by omega)]
    congr 2
    subst hV
    rw [List.getElem_map, xM _ _ _ h]
  have hres : AV.tup [gL (bQ f s m), .int .i64 0] = .tup [.sl 9 false V, .int .i64 0] := by rw [hV]; rfl
  have hcs : s.av = .agg s.cs := rfl
  have scs : s.cs = .int .i64 s.k :: (s.vs ++ [.int .i64 s.w]) := rfl
  have slen : s.vs.length = 6 := rfl
  have sro := s.ro_cs
  have hva := fun (k : Nat) (h : k < 6) => s.cs_get h
  have hvi := fun (i : Nat) (h : i < 6) => hg.i64 h
  have hwi : s.k = 5 → 1 ≤ s.w ∧ s.w ≤ 4096 := fun h => by have := hg.w; rwa [if_pos h] at this
  rw [hres, hcs, hav]
  rw [hav] at hap0
  simp only [hav] at k64
  have kh0 := kh (m.app f) 1 (happ f hf) (by omega)
  have hzat : ∀ i, i < dX s.k → (au (s.v (2 * i)) (s.v (2 * i + 1))).sz ≤ 1 := fun i h => dn (hvi _ (by have := qN k2 k5 h; omega)) (hvi _ (qN k2 k5 h))
  have H64 : ∀ i, i < dX s.k → ab Tryz.prog 65 [.agg (lQ m), .int .i64 (s.v (2 * i)), .int .i64 (s.v (2 * i + 1))] (eA (m.app (au (s.v (2 * i)) (s.v (2 * i + 1))))) := fun i h => k64 _ _ (hvi _ (by have := qN k2 k5 h; omega)) (hvi _ (qN k2 k5 h))
  have HW : ∀ i, i < dX s.k → ab Tryz.prog 148 [eA (m.app (au (s.v (2 * i)) (s.v (2 * i + 1)))), fA (gG s i)] (gA (nT s m i)) := fun i h => kh _ _ (happ _ (hzat i h)) (Dz hg i)
  have HA : ∀ i, s.k = 5 → i = 0 → ab Tryz.prog 64 [.int .i64 s.w, .int .i64 64] (fA (gG s i)) := fun i h h0 => by
    have := kfr s.w (by have := hwi h; omega)
    rw [show gG s i = (s.w : Rat) / 64 from if_pos ⟨h, h0⟩]; exact this
  have HB : ∀ i, ¬ (s.k = 5 ∧ i = 0) → gG s i = 1 := fun i h => if_neg h
  have hpv := fun i (h : i < dX s.k) => qN k2 k5 h
  rw [scs] at sro ⊢
  refine Pg Tryz.func71 rfl [.tmp 6, .tmp 7] rfl (by simp -implicitDefEqProofs [go_sem, hVr]) ?_
  obtain ⟨W, hW⟩ : ∃ W : Nat → Rat, W = gG s := ⟨_, rfl⟩
  obtain ⟨CP, hCP⟩ : ∃ CP : Nat → HQ, CP = nT s m := ⟨_, rfl⟩
  obtain ⟨AP, hAP⟩ : ∃ AP : Nat → PQ, AP = fun i => m.app (au (s.v (2 * i)) (s.v (2 * i + 1))) := ⟨_, rfl⟩
  have H64 : ∀ i, i < dX s.k → ab Tryz.prog 65 [.agg (lQ m), .int .i64 (s.v (2 * i)), .int .i64 (s.v (2 * i + 1))] (eA (AP i)) := fun i h => by rw [hAP]; exact H64 i h
  have HW : ∀ i, i < dX s.k → ab Tryz.prog 148 [eA (AP i), fA (W i)] (gA (CP i)) := fun i h => by rw [hAP, hW, hCP]; exact HW i h
  have HA : ∀ i, s.k = 5 → i = 0 → ab Tryz.prog 64 [.int .i64 s.w, .int .i64 64] (fA (W i)) := fun i h h0 => by rw [hW]; exact HA i h h0
  have HB : ∀ i, ¬ (s.k = 5 ∧ i = 0) → W i = 1 := fun i h => by rw [hW]; exact HB i h
  have hVs : ∀ i, i < dX s.k → V.take (i + 1 + 1) = V.take (i + 1) ++ [gA (CP i)] := fun i h => by rw [hCP]; exact hVs i h
  have b5 : s.k = 5 → ¬ s.w < 1 := fun h => by have := hwi h; omega
  have hnum : s.k = 2 ∧ dX s.k = 1 ∨ s.k = 3 ∧ dX s.k = 2 ∨ s.k = 4 ∧ dX s.k = 3 ∨ s.k = 5 ∧ dX s.k = 2 := by
    rcases (by omega : s.k = 2 ∨ s.k = 3 ∨ s.k = 4 ∨ s.k = 5) with h | h | h | h
    · exact .inl ⟨h, by rw [h]; rfl⟩
    · exact .inr (.inl ⟨h, by rw [h]; rfl⟩)
    · exact .inr (.inr (.inl ⟨h, by rw [h]; rfl⟩))
    · exact .inr (.inr (.inr ⟨h, by rw [h]; rfl⟩))
  clear hW hCP hAP hzat kh k64 kfr hV hwi h1 h6 k2 k5 hg
  generalize lQ m = M at *
  generalize s.vs = vs at *
  generalize HQ.wt (m.app f) 1 = w0 at *
  generalize m.app f = p0 at *
  have svr : roL vs := by
    have := sro
    simp only [roL, aB] at this
    exact this.2.1
  have vrn := fun rn => renL_ro rn _ svr
  have vrc := cloL_ro (n := 10) _ svr
  have mrr := fun rn => renL_ro rn _ mro
  have mrc := cloL_ro (n := 10) _ mro
  simp only [bR, co, xW] at *
  have rgc : ∀ h : HQ, roL (gC h) := fun h => by have := qT h; rw [xW] at this; simpa only [ro] using this
  have rw0 := rgc w0
  have lw : ∀ h : HQ, (gC h).length = 9 := fun h => rfl
  have tw : ∀ h : HQ, (gC h).take 9 = gC h := fun h => rfl
  have dw : ∀ h : HQ, (gC h).drop 9 = [] := fun h => rfl
  have lp : ∀ h : PQ, (eC h).length = 6 := fun h => rfl
  have tp : ∀ h : PQ, (eC h).take 6 = eC h := fun h => rfl
  generalize hnp : dX s.k = np at *
  clear hnp
  generalize s.w = sw at *
  generalize s.k = kk at *
  rcases hnum with ⟨rfl, hn⟩ | ⟨rfl, hn⟩ | ⟨rfl, hn⟩ | ⟨rfl, hn⟩
  all_goals
    first
    | (have b5 := b5 rfl
       simp -implicitDefEqProofs [go_sem, slen, mlen, lp, b5])
    | simp -implicitDefEqProofs [go_sem, slen, mlen, lp]
    refine ag one ?_
    simp -implicitDefEqProofs [go_sem, slen, mlen, mtk, lp, tp]
    refine aC _ hap0 (by simp [go_sem, mro]) ?_
    simp -implicitDefEqProofs [go_sem]
    refine aa kh0 ?_
    simp -implicitDefEqProofs [go_sem, lw, tw, dw]
    refine aj 10 (α := {i : Nat // i ≤ np}) (fun i => [(4, .ptr 1 0 0), (5, .ptr 2 0 0), (8, .int .i64 np), (9, .ptr 3 0 0), (10, .own 9 9 0 (i.1 + 1)), (11, .int .i64 i.1)])
      (fun i => [(1, .live 8 [.agg (.int .i64 _ :: (vs ++ [.int .i64 sw]))]), (2, .live 18 [.agg M]), (3, .live 3 [.agg (fC 1)]), (9, .live 9 (V.take (i.1 + 1)))]) (fun i => np - i.1) ⟨0, Nat.zero_le _⟩ [] (by simp) (fun _ _ _ _ h => h) (by simp) (by simp -implicitDefEqProofs [go_sem, hn]) (by simp -implicitDefEqProofs [go_sem, hT1, mrr, mrc, vrn, vrc, renL_ro (nm []) _ rw0, cloL_ro (n := 10) _ rw0]; rfl) fun ⟨i, hi⟩ => ?_
    have hTl : (V.take (i + 1)).length = i + 1 := by rw [List.length_take]; omega
    have hTr : roL (V.take (i + 1)) := bB hVr
    by_cases a : i < np
    rotate_left
    · have a1 : ¬ (i : Int) < np := by omega
      have hTV : V.take (i + 1) = V := List.take_of_length_le (by omega)
      have e1 : i + 1 ≤ V.length := by omega
      simp -implicitDefEqProofs [go_sem, a, a1, hTV, e1]
    have a1 : (i : Int) < np := by omega
    have es := wS i (by omega)
    have hi6 := hpv i a
    have g1 := hva (2 * i) (by omega)
    have g2 := hva (2 * i + 1) hi6
    have w1 : IntKind.i64.wrap (2 * (i : Int)) = 2 * (i : Int) := bO (by omega)
    have w2 : IntKind.i64.wrap (2 * (i : Int) + 1) = 2 * (i : Int) + 1 := bO (by omega)
    have t1 : (2 * (i : Int)).toNat = 2 * i := by omega
    have t2 : (2 * (i : Int) + 1).toNat = 2 * i + 1 := by omega
    have q1 : (0 : Int) ≤ 2 * (i : Int) := by omega
    have q2 : 2 * (i : Int) < 6 := by omega
    have q3 : (0 : Int) ≤ 2 * (i : Int) + 1 := by omega
    have q4 : 2 * (i : Int) + 1 < 6 := by omega
    have q5 : 0 < 8 - (1 + 2 * i) := by omega
    have q6 : 0 < 8 - (1 + (2 * i + 1)) := by omega
    have kp := H64 i a
    have kq := HW i a
    have hsc := hVs i a
    have HA := HA i
    have HB := HB i
    have hTr1 : roL (V.take (i + 1 + 1)) := bB hVr
    generalize CP i = cp at *
    generalize AP i = ap at *
    generalize W i = w at *
    rcases Nat.eq_zero_or_pos i with i0 | i0
    focus
      first
      | (have HA := HA rfl i0
         simp -implicitDefEqProofs [go_sem, a1, a, slen, eq_true i0]
         refine ag HA ?_
         simp -implicitDefEqProofs [go_sem])
      | (have hww := HB (fun h => absurd h.1 (by decide))
         subst hww
         simp -implicitDefEqProofs [go_sem, a1, a, slen])
    rotate_left
    focus
      have hww := HB (fun h => by omega)
      subst hww
      simp -implicitDefEqProofs [go_sem, a1, a, slen, show ¬ i = 0 by omega]
    all_goals
      simp -implicitDefEqProofs [go_sem, slen, mlen, mtk, w1, w2, t1, t2, q1, q2, q3, q4, q5, q6, g1, g2]
      refine aC _ kp (by simp [go_sem, mro]) ?_
      simp -implicitDefEqProofs [go_sem]
      refine aa kq ?_
      simp -implicitDefEqProofs [go_sem, lw, tw, dw]
      have e1 : i + 1 ≤ min (i + 1) V.length := by omega
      have e2 : ((i : Int) + 1 + 1) * 168 ≤ 70368744177664 := by omega
      refine ⟨e1, e2, ?_⟩
      have rh := rgc cp
      simp -implicitDefEqProofs [go_sem, es]
      exact ae ⟨i + 1, a⟩ (by simp only; omega) [(9, 28)] (by simp) (by simp [nm]) (by simp) (by simp -implicitDefEqProofs [go_sem, es]) (by simp -implicitDefEqProofs [go_sem, mrr, mrc, vrn, vrc, renL_ro (nm [(9, 28)]) _ hTr, cloL_ro (n := 10) _ hTr, renL_ro (nm [(9, 28)]) _ rh, cloL_ro (n := 10) _ rh, hsc, List.take_take])
section
variable {H:Type} {enc:TypeId×Value→H} {P:Program} {w:World}
end
section
variable {H:Type} {enc:TypeId×Value→H} {w:World}
theorem EZ:lD enc Tryz.prog w 29 fun l=>∃m:MR,m.Lm∧l=m.cs :=
 (C0 [(27,3,AA),(27,3,AA),(27,3,AA),(27,3,AA),(27,3,AA),(27,3,AA)] (by kernel_rfl) (by kernel_rfl) (by kernel_rfl) (fun f hf=>by
  simp only [List.mem_cons,List.not_mem_nil,or_false,or_self] at hf
  subst hf; exact yr)).mono fun l ⟨a,_,e1,⟨x,hx,h1⟩,b,_,e2,⟨y,hy,h2⟩,c,_,e3,⟨z,hz,h3⟩,d,_,e4,⟨u,hu,h4⟩,g,_,e5,⟨v,hv,h5⟩,i,_,e6,⟨o,ho,h6⟩,e7⟩=>⟨⟨x,y,z,u,v,o⟩,⟨hx,hy,hz,hu,hv,ho⟩,by rw [e1,e2,e3,e4,e5,e6,e7,h1,h2,h3,h4,h5,h6]; rfl⟩
end
def tJ (x:List PQ×Bool):AV := .agg [eL x.1,.bool x.2]
theorem Fa (x:List PQ×Bool):ro (tJ x):=by unfold tJ; simp only [ro,roL,eL]; exact ⟨cR _,trivial,trivial⟩
theorem sJ (L:List (List PQ×Bool)):roL (L.map tJ):=bC Fa
def BC (L:List (List PQ×Bool)):AV := .sl 2 false (L.map tJ)
theorem tE:∀(l:List Sg) (c:Cut),c.cur.Near→(∀s∈l,s.Good)→(l.foldl Cut.step c).cur.Near
 | [],c,h,_=>h
 | s::l,c,h2,h=>by
  have hg:=h s (by simp)
  have v0:=hg.v 0 (by omega)
  have v1:=hg.v 1 (by omega)
  refine tE l (c.step s) ?_ fun x hx=>h x (by simp [hx])
  unfold Cut.step
  split
  ·exact ⟨⟨v0.1,v0.2.1⟩,v1.1,v1.2.1⟩
  ·split
   ·exact ⟨h2.x,h2.y⟩
   ·exact ⟨h2.x,h2.y⟩
theorem zl {l:List Sg} (h:∀s∈l,s.Good):(cC l).cur.Near:=tE l iN ⟨by simp [iN],by simp [iN]⟩ h
theorem rJ (L:List (List PQ×Bool)) (hL:L.length≤1048576) (hl:∀x∈L,x.1.length<1099511627∧∀p∈x.1,p.sz≤4294967296):ab Tryz.prog 21 [BC L] (kg L):=by
 refine ab.of_ca (sM _) (Cz Tryz.func21 rfl [.tmp 2] rfl ?_)
 obtain ⟨V,hV⟩:∃V,V=L.map jH:=⟨_,rfl⟩
 have hVl:V.length=L.length:=by rw [hV]; simp
 have hVr:∀i,roL (V.take i):=fun i=>by rw [hV]; exact bB (lf L)
 have hVg:∀i (h:i<L.length),V[i]'(by omega) = .agg [pL L[i].1,.bool L[i].2]:=fun i h=>by subst hV; rw [List.getElem_map]; rfl
 have hgoal:kg L = .sl 2 false V:=by rw [hV]; rfl
 have hg0:∀i (h:i<L.length),bk (L.map tJ) (i:Int) = .agg [.sl 6 false (L[i].1.map eA),.bool L[i].2]:=fun i h=>nw h
 have hPl:(L.map tJ).length=L.length:=by simp
 have hr:=sJ L
 rw [hgoal]
 unfold BC
 generalize L.map tJ=U at *
 simp -implicitDefEqProofs [go_sem]
 refine aj 2 (α:={i:Nat // i≤L.length}) (fun i=>[(0,.sl 2 false U),(3,b9 2 1 (V.take i.1)),(4,.int .i64 i.1)]) (fun i=>dZ 2 1 (V.take i.1)) (fun i=>L.length-i.1) ⟨0,Nat.zero_le _⟩ [] (by simp) (by simp [nm]) (by simp) (by simp -implicitDefEqProofs [go_sem,List.take_zero,renL_ro (nm []) _ hr,cloL_ro (n:=2) _ hr]) (by simp -implicitDefEqProofs [go_sem,List.take_zero]) fun ⟨i,hi⟩=>?_
 have hTl:(V.take i).length=i:=by rw [List.length_take]; omega
 by_cases a:i<L.length
 ·have a1:(i:Int)<L.length:=by omega
  have gi:=hg0 i a
  have es:=wS i (by omega)
  have k1:=vQ L[i].1 (hl _ (List.getElem_mem a)).1 (hl _ (List.getElem_mem a)).2
  have hsc:V.take (i+1)=V.take i++[.agg [pL L[i].1,.bool L[i].2]]:=by
   rw [List.take_succ_eq_append_getElem (by omega),hVg i a]
  have hr1:=hVr (i+1)
  rw [hsc] at hr1
  have rx:=cR L[i].1
  have rp:=c8 L[i].1
  unfold eL at k1
  rw [show pL L[i].1 = .sl 6 false (L[i].1.map pA) from rfl] at *
  generalize L[i].1.map eA=X at *
  generalize L[i].1.map pA=Y at *
  generalize L[i].2=c at *
  simp -implicitDefEqProofs [go_sem,a1,a,hPl,gi]
  refine az (by kernel_rfl) ?_
  simp -implicitDefEqProofs [go_sem,a1,a,hPl,gi]
  refine aC _ k1 (by simp [go_sem,rx]) ?_
  simp -implicitDefEqProofs [go_sem,a1,a,hPl,gi]
  have r1:=renL_ro (nm [(1,16)]) _ hr1
  have r2:=cloL_ro (n:=2) _ hr1
  refine bf (.inl rfl) (by omega) (by omega) (by simp -implicitDefEqProofs [go_sem]) (by simp [hTl]<;>omega) (fun h=>by simp -implicitDefEqProofs [go_sem,aJ h]) ?_
  have hmin:min i V.length=i:=by omega
  simp -implicitDefEqProofs [go_sem,es,hmin]
  exact ae ⟨i+1,a⟩ (by simp only; omega) [(1,16)] (by simp) (by simp only [hsc,bh]; simp [nm]) (by simp) (by simp only [hsc,dF]; simp -implicitDefEqProofs [go_sem,hTl,hmin,renL_ro (nm [(1,16)]) _ hr,cloL_ro (n:=2) _ hr]) (by simp only [hsc,bh]; simp -implicitDefEqProofs [go_sem,r1,r2])
 ·have hii:i=L.length:=by omega
  have a1:¬(i:Int)<L.length:=by omega
  have hTV:V.take i=V:=List.take_of_length_le (by omega)
  have hro:=hVr i
  rw [hTV] at hro ⊢
  simp -implicitDefEqProofs [go_sem,a1,hPl]
  exact tu hro (fun h=>by simp -implicitDefEqProofs [go_sem,aJ h])
theorem wR (L:List (List PQ×Bool)) (hL:L.length≤1048576) (hl:∀x∈L,x.1.length<1099511627776∧∀p∈x.1,p.sz<1099511627776):ab Tryz.prog 20 [kg L,kg L] (.bool true):=by
 refine Pg Tryz.func20 rfl [.tmp 4] rfl (by simp -implicitDefEqProofs [go_sem]) ?_
 have hg0:∀i (h:i<L.length),bk (L.map jH) (i:Int) = .agg [pL L[i].1,.bool L[i].2]:=fun i h=>nw h
 have hPl:(L.map jH).length=L.length:=by simp
 have hr:=lf L
 unfold kg
 generalize L.map jH=U at *
 simp -implicitDefEqProofs [go_sem]
 refine aj 0 (α:={i:Nat // i≤L.length}) (fun i=>[(0,.sl 2 false U),(1,.sl 2 false U),(5,.int .i64 i.1)]) (fun i=>[]) (fun i=>L.length-i.1) ⟨0,by omega⟩ [] (by simp) (by simp) (by simp) (by simp -implicitDefEqProofs [go_sem,renL_ro (nm []) _ hr,cloL_ro (n:=0) _ hr]) (by simp -implicitDefEqProofs [go_sem]) fun ⟨i,hi⟩=>?_
 by_cases a:i<L.length
 ·have a1:(i:Int)<L.length:=by omega
  have gi:=hg0 i a
  have es:=wS i (by omega)
  have k1:=wA L[i].1 (hl _ (List.getElem_mem a)).1 (hl _ (List.getElem_mem a)).2
  have rp:=li L[i].1
  generalize pL L[i].1=Y at *
  generalize L[i].2=c at *
  simp -implicitDefEqProofs [go_sem,a1,a,hPl,gi]
  refine aC _ k1 (by simp [go_sem,rp]) ?_
  simp -implicitDefEqProofs [go_sem,es]
  exact ae ⟨i+1,by omega⟩ (by simp only; omega) [] (by simp) (by simp) (by simp) (by simp -implicitDefEqProofs [go_sem,renL_ro (nm []) _ hr,cloL_ro (n:=0) _ hr]) (by simp -implicitDefEqProofs [go_sem])
 ·have a1:¬(i:Int)<L.length:=by omega
  simp -implicitDefEqProofs [go_sem,a1,hPl]
theorem AE (l:List Sg) (hl:l.length≤1048576):ab Tryz.prog 22 [il l,il l] (.bool true):=by
 refine Pg Tryz.func22 rfl [.tmp 4] rfl (by simp -implicitDefEqProofs [go_sem]) ?_
 have hg0:∀i (h:i<l.length),bk (l.map Sg.av) (i:Int) = .agg l[i].cs:=fun i h=>ft h
 have hPl:(l.map Sg.av).length=l.length:=by simp
 have hr:=dN l
 unfold il
 generalize l.map Sg.av=U at *
 simp -implicitDefEqProofs [go_sem]
 refine aj 0 (α:={i:Nat // i≤l.length}) (fun i=>[(0,.sl 8 false U),(1,.sl 8 false U),(5,.int .i64 i.1)]) (fun i=>[]) (fun i=>l.length-i.1) ⟨0,by omega⟩ [] (by simp) (by simp) (by simp) (by simp -implicitDefEqProofs [go_sem,renL_ro (nm []) _ hr,cloL_ro (n:=0) _ hr]) (by simp -implicitDefEqProofs [go_sem]) fun ⟨i,hi⟩=>?_
 by_cases a:i<l.length
 ·have a1:(i:Int)<l.length:=by omega
  have gi:=hg0 i a
  have es:=wS i (by omega)
  have hcs:l[i].cs=[.int .i64 l[i].k,.int .i64 (l[i].v 0),.int .i64 (l[i].v 1),.int .i64 (l[i].v 2),.int .i64 (l[i].v 3),.int .i64 (l[i].v 4),.int .i64 (l[i].v 5),.int .i64 l[i].w]:=rfl
  generalize l[i]=x at *
  have key:∀X:List AV,X=[.int .i64 (x.v 0),.int .i64 (x.v 1),.int .i64 (x.v 2),.int .i64 (x.v 3),.int .i64 (x.v 4),.int .i64 (x.v 5)]→nM Tryz.prog .neq 80 X (.agg X)=some (Tryz.prog.eqGuardType Tryz.prog.depth 80=false,.bool false):=fun X h=>by
   subst h
   simp -implicitDefEqProofs [go_sem,nM,kQ]
  simp -implicitDefEqProofs [go_sem,a1,a,hPl,gi,hcs,key _ rfl,es]
  exact ae ⟨i+1,by omega⟩ (by simp only; omega) [] (by simp) (by simp) (by simp) (by simp -implicitDefEqProofs [go_sem,renL_ro (nm []) _ hr,cloL_ro (n:=0) _ hr]) (by simp -implicitDefEqProofs [go_sem])
 ·have a1:¬(i:Int)<l.length:=by omega
  simp -implicitDefEqProofs [go_sem,a1,hPl]
mutual
def zF (g:Nat) (l:List AV):AV→AV
 | .own sz id off len=>if id=g∧off+len≤l.length then .sl sz false ((l.drop off).take len) else .own sz id off len
 | .agg cs => .agg (frqL g l cs)
 | a=>a
def frqL (g:Nat) (l:List AV):List AV→List AV
 | []=>[]
 | a::r=>zF g l a::frqL g l r
end
def m_ (g:Nat) (l:List AV) (j:Nat) (b:BS):BS:=if j=g then .dead else match b with
 | .live sz m => .live sz (frqL g l m)
 | b=>b
theorem kM (g:Nat) (R:List AV):∀l,frqL g R l=l.map (zF g R)
 | []=>rfl
 | a::l=>by simp only [frqL,List.map_cons,kM g R l]
theorem kL (g:Nat) (R l m:List AV):frqL g R (l++m)=frqL g R l++frqL g R m:=by simp only [kM,List.map_append]
theorem zG (g:Nat) (l:List AV) (a:AV):(zF g l a).isAgg=a.isAgg:=by
 cases a<;>try rfl
 simp only [zF]; split<;>rfl
mutual
theorem GD (g:Nat) (R:List AV):∀a:AV,ro a→zF g R a=a
 | .own _ _ _ _,h=>by simp only [ro] at h
 | .agg cs,h=>by simp only [ro] at h; simp only [zF]; rw [frqL_ro g R cs h]
 | .any,_=>rfl
 | .bool _,_=>rfl
 | .int _ _,_=>rfl
 | .str _,_=>rfl
 | .tup _,_=>rfl
 | .sl _ _ _,_=>rfl
 | .ptr _ _ _,_=>rfl
 | .rp _,_=>rfl
 | .fn _ _ _,_=>rfl
 | .yld _,_=>rfl
 | .mp _,_=>rfl
 | .nilp,_=>rfl
theorem frqL_ro (g:Nat) (R:List AV):∀l:List AV,roL l→frqL g R l=l
 | [],_=>rfl
 | a::l,h=>by simp only [roL] at h; simp only [frqL]; rw [GD g R a h.1,frqL_ro g R l h.2]
end
mutual
theorem BJ {c c':Cx} {g:Nat} {R:List AV} (hkr:Kr c c') (hp:∀sz off len v,off+len≤R.length→Rv c (.own sz g off len) v→Rv c' (.sl sz false ((R.drop off).take len)) v):∀(x:AV) (v:Value),Rv c x v→Rv c' (zF g R x) v
 | .own sz id off len,v,h=>by
  simp only [zF]
  split
  ·rename_i hh
   obtain ⟨rfl,h2⟩:=hh
   exact hp sz off len v h2 h
  ·exact Rv.keepR hkr _ _ h
 | .agg cs,v,h=>by
  simp only [Rv,zF] at h ⊢
  obtain ⟨vs,rfl,h1,h2⟩:=h
  exact ⟨vs,rfl,h1,frq_rl hkr hp cs _ h2⟩
 | .tup cs,v,h=>Rv.keepR hkr (.tup cs) v h
 | .fn f fs cap,v,h=>Rv.keepR hkr (.fn f fs cap) v h
 | .ptr id idx off,v,h=>Rv.keepR hkr (.ptr id idx off) v h
 | .any,v,h=>Rv.keepR hkr .any v h
 | .bool b,v,h=>Rv.keepR hkr (.bool b) v h
 | .int k n,v,h=>Rv.keepR hkr (.int k n) v h
 | .str s,v,h=>Rv.keepR hkr (.str s) v h
 | .sl sz tg l,v,h=>Rv.keepR hkr (.sl sz tg l) v h
 | .rp cs,v,h=>Rv.keepR hkr (.rp cs) v h
 | .yld id,v,h=>Rv.keepR hkr (.yld id) v h
 | .mp id,v,h=>Rv.keepR hkr (.mp id) v h
 | .nilp,v,h=>Rv.keepR hkr .nilp v h
theorem frq_rl {c c':Cx} {g:Nat} {R:List AV} (hkr:Kr c c') (hp:∀sz off len v,off+len≤R.length→Rv c (.own sz g off len) v→Rv c' (.sl sz false ((R.drop off).take len)) v):∀(l:List AV) (vs:List Value),Rl c l vs→Rl c' (frqL g R l) vs
 | [],_,h=>h
 | a::l,vs,h=>by
  simp only [Rl,frqL] at h ⊢
  obtain ⟨v,r,rfl,h1,h2⟩:=h
  exact ⟨v,r,rfl,BJ hkr hp a v h1,frq_rl hkr hp l r h2⟩
end
theorem j5 {ne:Nat} {t:Nat→AV} {f:Nat→BS} {n:Nat} (g sz:Nat) (l:List AV) (hg:f g = .live sz l) :
 le ne ⟨t,f,n⟩ ⟨fun k=>zF g l (t k),fun j=>m_ g l j (f j),n⟩:=by
 rintro c0 N a w ⟨c,rfl,hk,hfr,ht,hN,hd,hs,h0,hnn⟩
 obtain ⟨e,he,hesz,hnr,hreal⟩:=hk.live g sz l hg
 let c':Cx:={ w:=c.w,mu:=ar c.mu g none,U:=c.U,F:=fun b=>c.F b∧(e.real=true→b≠e.block) }
 have hkr:Kr c c':=⟨Nat.le_refl _,fun b _ _ o v h=>h,fun _ h=>h,fun id _=>by
  by_cases hid:id=g
  ·right; subst hid; exact ah _ _ _
  ·left; exact ac _ _ _ hid,fun b _ h=>h.1⟩
 have hmu:∀id e',c'.mu id=some e'→id≠g∧c.mu id=some e':=fun id e' h=>by
  by_cases hid:id=g
  ·subst hid; rw [show c'.mu id=none from ah _ _ _] at h; cases h
  ·rw [show c'.mu id=c.mu id from ac _ _ _ hid] at h; exact ⟨hid,h⟩
 have hmu2:∀id,id≠g→c'.mu id=c.mu id:=fun id h=>ac _ _ _ h
 have hp:∀sz' off len v,off+len≤l.length→Rv c (.own sz' g off len) v→Rv c' (.sl sz' false ((l.drop off).take len)) v:=by
  intro sz' off len v hle h
  simp only [Rv] at h ⊢
  obtain ⟨hU,h2,ad,cap,rfl,h3,h4⟩:=h
  have hsz':sz=sz':=by rw [←hesz]; exact h2 e he
  subst hsz'
  have hlen:((l.drop off).take len).length=len:=by rw [List.length_take,List.length_drop]; omega
  refine ⟨ad,cap,by rw [hlen],by rw [hlen]; exact h3,by simp,?_⟩
  rcases h4 with h4|⟨b,o,rfl,h5⟩
  ·left; exact List.eq_nil_of_length_eq_zero (by rw [hlen]; omega)
  ·obtain ⟨hr,rfl,rfl,_⟩:=h5 e he
   right
   obtain ⟨hre,_⟩:=hreal hr
   refine ⟨_,_,rfl,hk.lt he hr,fun hF=>hF.2 hr rfl,?_⟩
   rw [hesz]
   refine Re.of_get fun i x hi=>?_
   obtain ⟨v,g1,g2⟩:=(hre.slice off len).get i x hi
   exact ⟨v,g1.keepR hkr,g2⟩
 have key:∀(x:AV) (v:Value),Rv c x v→Rv c' (zF g l x) v:=fun x v h=>BJ hkr hp x v h
 have hfresh:∀j,m_ g l j (f j) = .fresh↔f j = .fresh:=fun j=>by
  unfold m_
  split
  ·rename_i h; subst h; rw [hg]; simp
  ·cases f j<;>simp
 have hst:Stp c0 c':=by
  refine ⟨hs.os,hs.tape,hs.output,hs.size,hs.keep,hs.U,fun id h=>?_,fun id e' h hr=>hs.new id e' (hmu id e' h).2 hr,fun b hb=>⟨fun h=>(hs.F b hb).1 h.1,fun hn hF=>⟨(hs.F b hb).2 hn hF,fun hr hbe=>?_⟩⟩⟩
  ·by_cases hid:id=g
   ·subst hid; right; exact ah _ _ _
   ·rw [hmu2 id hid]; exact hs.mu id h
  ·subst hbe
   rcases hs.new g e he hr with h1|⟨j,e',hj,hr',hb'⟩
   ·omega
   ·exact hn j e' hj hr' hb'
 refine ⟨c',rfl,?_,fun j=>(hfresh j).trans (hfr j),fun k=>key _ _ (ht k),hN,cU.back (c:=c) (c':=c') rfl (fun id e' h=>⟨id,(hmu id e' h).2⟩) hd,hst,h0,hnn⟩
 constructor
 ·intro id; exact (hk.used id).trans (not_congr (hfresh id)).symm
 ·intro id h
  by_cases hid:id=g
  ·subst hid; exact ah _ _ _
  ·rw [hmu2 id hid]
   refine hk.none id ?_
   change m_ g l id (f id) = .fresh∨m_ g l id (f id) = .dead at h
   change f id = .fresh∨f id = .dead
   unfold m_ at h
   simp only [if_neg hid] at h
   cases hf:f id with
   | fresh=>exact .inl rfl
   | dead=>exact .inr rfl
   | live s m=>rw [hf] at h; simp at h
   | obj o t=>rw [hf] at h; simp at h
 ·intro id s m h
  change m_ g l id (f id)=_ at h
  unfold m_ at h
  split at h
  ·cases h
  ·rename_i hid
   cases hf:f id with
   | live s' m' =>
    rw [hf] at h
    simp only [BS.live.injEq] at h
    obtain ⟨rfl,rfl⟩:=h
    obtain ⟨e2,he2,h1,h2,h3⟩:=hk.live id s' m' hf
    refine ⟨e2,by rw [hmu2 id hid]; exact he2,h1,fun hr=>by rw [h2 hr]; rfl,fun hr=>?_⟩
    obtain ⟨hre,htot,cs,ty,hh,hsz⟩:=h3 hr
    refine ⟨Re.of_get fun i x hi=>?_,by rw [kM,List.length_map]; exact htot,cs,ty,hh,hsz⟩
    rw [kM,List.getElem?_map] at hi
    cases hx:m'[i]? with
    | none=>rw [hx] at hi; cases hi
    | some y =>
     rw [hx] at hi
     simp only [Option.map_some,Option.some.injEq] at hi
     subst hi
     obtain ⟨v,g1,g2,g3,g4,g5⟩:=hre.get i y hx
     exact ⟨v,key _ _ g1,g2,by rw [zG]; exact g3,g4,g5⟩
   | fresh=>rw [hf] at h; cases h
   | dead=>rw [hf] at h; cases h
   | obj o t=>rw [hf] at h; cases h
 ·intro id o tt h
  change m_ g l id (f id)=_ at h
  unfold m_ at h
  split at h
  ·cases h
  ·rename_i hid
   cases hf:f id with
   | obj o' t' =>
    rw [hf] at h
    simp only [BS.obj.injEq] at h
    obtain ⟨rfl,rfl⟩:=h
    obtain ⟨e2,oo,he2,h1,h2,h3,hS,h4,h5,h6⟩:=hk.obj id o' t' hf
    exact ⟨e2,oo,by rw [hmu2 id hid]; exact he2,h1,h2,h3,hS,h4,fun k=>(h5 k).keepR hkr,h6⟩
   | fresh=>rw [hf] at h; cases h
   | dead=>rw [hf] at h; cases h
   | live s m=>rw [hf] at h; cases h
 ·intro i j ei ej hi hj
  exact hk.inj i j ei ej (hmu i ei hi).2 (hmu j ej hj).2
 ·intro id e2 h hr
  obtain ⟨hid,h2⟩:=hmu id e2 h
  exact ⟨hk.shut id e2 h2 hr,fun hre hb=>hid (hk.inj id g e2 e h2 he hr hre hb)⟩
section
variable {P:Program} {z:Bool} {ne:Nat} {Q:AEx→St→Prop} {k:List Itm} {t:Nat→AV} {f:Nat→BS} {n:Nat}
theorem l7 {n0:Nat} {α:Type} {tl:α→List (Nat×AV)} {hl:α→List (Nat×BS)} {m:α→Nat} {x:α} (g sz:Nat) (l:List AV) (hg:f g = .live sz l) (y:α) (hm:m y<m x) (rl:List (Nat×Nat)) (hrl:∀p∈rl,ne≤p.1) (hri:∀p∈hl y,∀q∈hl y,nm rl p.1=nm rl q.1→p.1=q.1) (hne:ne≤n0) (ht:∀p∈tl y,zF g l (t p.1)=ren (nm rl) p.2∧clo n0 p.2) (hh:∀p∈hl y,p.1<n0∧m_ g l (nm rl p.1) (f (nm rl p.1))=gu (nm rl) p.2∧dJ ne n0 p) :
 go P z ne Q (.lp α (fun y=>xr n0 (tl y) (hl y)) m x::k) t f n:=by
 rw [Cf]
 exact ⟨y,(j5 g sz l hg).trans (dz rl hrl hri hne ht hh),hm⟩
theorem Cb {c:Code} {α:Type} (n1:Nat) (tl:α→List (Nat×AV)) (hl:α→List (Nat×BS)) (m:α→Nat) (x0:α) (h0:le ne ⟨t,f,n⟩ (xr n1 (tl x0) (hl x0)))
 (h:∀x,go P z ne Q (.code c :: .lp α (fun y=>xr n1 (tl y) (hl y)) m x::k) (tm (tl x)) (hp n1 (hl x)) n1):go P z ne Q (.code (.loop c)::k) t f n :=
 kP (fun y=>xr n1 (tl y) (hl y)) m x0 h0 h
end
attribute [go_sem] zF frqL m_
open Go
set_option linter.unusedSimpArgs false
set_option linter.unusedVariables false
def SP (P:Program) (ne N:Nat) (c:Code) (Q:AEx→St→Prop) (s:St):Prop:=∀(c0:Cx) (a:Act) (w:World),mY c0 ne N s a w→c.wpIn (Fr none) 0 P (QR c0 ne N Q) a w
theorem SP.of_go {P:Program} (z:Bool) (hm:P.follows .mixedOrders=true) {ne N:Nat} {c:Code} {Q:AEx→St→Prop} {t:Nat→AV} {f:Nat→BS} {n:Nat} (hok:fM z N c=true) (h:go P z ne Q [.code c] t f n):SP P ne N c Q ⟨t,f,n⟩ :=
 fun c0 a w hs=>lJ hm c none c0 ne N Q _ a w hok (rt h) hs
def DB (P:Program) (ne N:Nat) (b:Code) (Q:AEx→St→Prop):AEx→St→Prop
 | .normal,s=>SP P ne N b Q s
 | e,s=>Q e s
theorem s6 {P:Program} {ne N:Nat} {b:Code} {Q:AEx→St→Prop} {s:St}:DB P ne N b Q .normal s=SP P ne N b Q s:=rfl
theorem AN {P:Program} {ne N:Nat} {b:Code} {Q:AEx→St→Prop} {s:St}:DB P ne N b Q .ret s=Q .ret s:=rfl
theorem SP.seq {P:Program} (z:Bool) (hm:P.follows .mixedOrders=true) {ne N:Nat} {x b:Code} {Q:AEx→St→Prop} {t:Nat→AV} {f:Nat→BS} {n:Nat} (hok:fM z N x=true) (h:go P z ne (DB P ne N b Q) [.code x] t f n):SP P ne N (.seq x b) Q ⟨t,f,n⟩:=by
 intro c0 a w hs
 refine wpIn_seq (wpIn_mono (lJ hm x none c0 ne N _ _ a w hok (rt h) hs) fun e a' w' hq=>?_)
 cases e<;>simp only [QR] at hq<;>simp only [Exit.then]
 case normal=>obtain ⟨s',h1,h2⟩:=hq; exact h1 c0 a' w' h2
 all_goals exact hq
theorem SP.le {P:Program} {ne N:Nat} {c:Code} {Q:AEx→St→Prop} {s s':St} (hl:le ne s s') (h:SP P ne N c Q s'):SP P ne N c Q s:=fun c0 a w hs=>h c0 a w (hl c0 N a w hs)
theorem CA.of_sp {P:Program} {g:FuncId} {fn:Func} {c:Code} (hf:P.funcs[g]?=some fn) (hb:fn.body=some c) (rs:List ResultVar) (hrs:fn.results.toList=rs) {args:List AV} (hq:((fn.name == "runtime.NumGoroutine") || !decide (args.length≤fn.ntmps))=false)
 {f:Nat→BS} {n:Nat} {K:AV→(Nat→BS)→Nat→Prop} (h:SP P n fn.ntmps c (wY P rs K) ⟨ez args,f,n⟩):CA P g args f n K:=by
 simp only [Bool.or_eq_false_iff,Bool.not_eq_false',decide_eq_true_eq] at hq
 subst hrs
 intro cx vs hk hfr hl
 refine fo hf hb hq.1 ?_
 refine callsIn_wide (n:=0).1 ?_
 refine callsIn_of_wp_marks hf hb trivial ?_
 have hlen:=hl.length
 have hN:=hq.2
 have hsat:mY cx n fn.ntmps ⟨ez args,f,n⟩ { tmps:=vs.toArray++Array.replicate (fn.ntmps-vs.toArray.size) undef,defers:=[] } cx.w :=
  ⟨cx,rfl,hk,hfr,xI hl fn.ntmps,by simp; omega,trivial,Stp.refl cx,rP hk hfr,Nat.le_refl _⟩
 rw [←xT]
 refine wpIn_mono (h cx _ _ hsat) fun e a w hq=>?_
 have key:∀s,(aO P s fn.results.toList fun l=>K (aF l) s.f s.n)→mY cx n fn.ntmps s a w→LeavesInM (Fr none) 0 P fn a.tmps (fun e w'=>∃v,e = .returned v ∧
  ∃c' r f' n',c'.w=w'∧K r f' n'∧HOk c' f'∧Rv c' r v∧Stp cx c'∧n≤n'∧∀j,f' j = .fresh↔n'≤j) a.defers .returning w:=by
  rintro s hs ⟨c',rfl,hk',hfr',ht',hN',hd',hst',h0',hne'⟩
  refine i7 (c0:=cx) (f:=s.f) (t:=s.t) (fun c2 hk2 ht2 hs2=>?_) a.defers c' hk' ht' hst' hd'
  obtain ⟨l,v,g1,g2,g3⟩:=mR hk2 ht2 hs
  exact ⟨v,g3,v,rfl,c2,aF l,s.f,s.n,rfl,g1,hk2,g2,hs2,hne',hfr'⟩
 cases e<;>simp only [QR] at hq<;>simp only [bodyPostM]
 case normal=>obtain ⟨s,h1,h2⟩:=hq; exact key s h1 h2
 case ret=>obtain ⟨s,h1,h2⟩:=hq; exact key s h1 h2
 case exit i=>obtain ⟨s,h1,h2⟩:=hq; exact h1
attribute [go_sem] s6 AN
open Go Go.Proofs
set_option maxRecDepth 20000
def vR (x:List (List PQ×Bool)×Int):AV := .agg [BC x.1,.int .i64 x.2]
theorem yD (L:List (List PQ×Bool)):ro (BC L):=by unfold BC; simp only [ro]; exact sJ L
theorem Fb (x:List (List PQ×Bool)×Int):ro (vR x):=by unfold vR; simp only [ro,roL]; exact ⟨yD _,trivial,trivial⟩
theorem xP (e:Int):Wk (.agg [.sl 0 true [],.int .i64 e]) (vR ([],e)):=Wk.agg (.cons (Wk.nil 0 2 true) (.cons (Wk.refl _) .nil))
def A5 (m:MQ) (tol:Rat) (u:Sub):List AV:=(dE m tol u).map eA
def DK (m:MQ) (tol:Rat) (D:List Sub):List AV:=D.map fun u => .agg [.sl 6 false (A5 m tol u),.bool u.closed]
theorem Dh (m:MQ) (tol:Rat) (D:List Sub):roL (DK m tol D):=bC (fun u=>by simp only [ro,roL,A5]; exact ⟨cR _,trivial,trivial⟩)
theorem xO {s:Sg} (hg:s.Good) (h1:s.k≠1) (h6:s.k≠6) (sx sy:Int):au (iW s sx) (iX s sy)=ea s:=by
 have:=hg.k1
 have:=hg.k6
 unfold iW iX ea
 rcases (by omega:s.k=2∨s.k=3∨s.k=4∨s.k=5) with h|h|h|h<;>simp [h]
theorem tI {s:Sg} (hg:s.Good) {sx sy:Int} (hx : -2147483648<sx∧sx<2147483648) (hy : -2147483648<sy∧sy<2147483648):(-2147483648<iW s sx∧iW s sx<2147483648) ∧ -2147483648<iX s sy∧iX s sy<2147483648:=by
 have h0:=hg.v 0 (by omega)
 have h1:=hg.v 1 (by omega)
 have h2:=hg.v 2 (by omega)
 have h3:=hg.v 3 (by omega)
 have h4:=hg.v 4 (by omega)
 have h5:=hg.v 5 (by omega)
 unfold iW iX
 constructor<;>(split; omega; split; omega; split<;>omega)
theorem tH (l:List Sg) (m:MQ) (tol:Rat) (hl:l.length≤9223372036854775807) (hm:sz m.a≤6∧sz m.b≤6∧sz m.c≤6∧sz m.d≤6∧sz m.e≤6∧sz m.f≤6) (ht:sz tol≤1024) (happ:∀q:PQ,q.sz≤1→(m.app q).sz≤100)
 (hO:bL l→0<tol→l.length≤12∧(∀i (b:Bool),OkS m tol ⟨(cC (l.take i)).cur.x,(cC (l.take i)).cur.y,(cC (l.take i)).cur.l,b⟩)∧∀u∈aU l,OkS m tol u) :
 ab Tryz.prog 17 [il l,vP m,fA tol] (vR (dL l m tol)):=by
 have g1:=iV l hl
 have g2:=cZ tol
 have z2:=iC (x:=tol)
 have hX':dL l m tol=if ¬bL l then ([],11) else if tol≤0 then ([],1) else (dM l m tol,0):=rfl
 generalize dL l m tol=X at *
 have hm1:sz m.a≤1000∧sz m.b≤1000∧sz m.c≤1000∧sz m.d≤1000∧sz m.e≤1000∧sz m.f≤1000:=by omega
 have kat:=fun (x y:Int) (hx : -2147483648<x∧x<2147483648) (hy : -2147483648<y∧y<2147483648)=>jZ m x y (by omega) (by omega) hm1
 have kof:=fun (f:PQ) (s:Sg) (hf:f.sz≤1) (hg:s.Good) (h1:s.k≠1) (h6:s.k≠6)=>zp f s m hf hg h1 h6 hm happ
 have mro:=oX m
 have mlen:(lQ m).length=18:=rfl
 have mtk:(lQ m).take 18=lQ m:=rfl
 rw [show vP m = .agg (lQ m) from rfl] at *
 simp only [co] at *
 have tro:roL (fC tol):=by simp -implicitDefEqProofs [go_sem]
 have tlen:(fC tol).length=3:=rfl
 have ttk:(fC tol).take 3=fC tol:=rfl
 have sro:=sN l
 refine ab.of_ca (Fb _) (Cz Tryz.func17 rfl [.cell 6 38] rfl ?_)
 generalize lQ m=M at *
 simp -implicitDefEqProofs [go_sem,mlen,mtk,mro,tlen,ttk,tro,sro]
 refine ai _ g1 (by simp [go_sem,sro]) ?_
 by_cases a1:bL l
 rotate_left
 ·rw [if_pos a1] at hX'
  rw [hX']
  simp -implicitDefEqProofs [go_sem,a1,aS]
  exact xP 11
 rw [if_neg (fun h=>h a1)] at hX'
 simp -implicitDefEqProofs [go_sem,a1,tlen,ttk]
 refine ai _ g2 (by simp [go_sem,tro]) ?_
 by_cases a2:cP tol≤0
 ·rw [if_pos (z2.1 a2)] at hX'
  rw [hX']
  simp -implicitDefEqProofs [go_sem,a2,aS]
  exact xP 1
 have h0:0<tol:=by have:=fun h=>a2 (z2.2 h); grind
 rw [if_neg (by grind)] at hX'
 obtain ⟨hl12,hOk,hOa⟩:=hO a1 h0
 simp -implicitDefEqProofs [go_sem,a2,sro]
 have hsr:=dN l
 have hVl:(l.map Sg.av).length=l.length:=by simp
 have hVg:∀i (h:i<l.length),bk (l.map Sg.av) (i:Int) = .agg l[i].cs:=fun i h=>ft h
 have hcs:∀i (h:i<l.length),l[i].cs=[.int .i64 l[i].k,.int .i64 (l[i].v 0),.int .i64 (l[i].v 1),.int .i64 (l[i].v 2),.int .i64 (l[i].v 3),.int .i64 (l[i].v 4),.int .i64 (l[i].v 5),.int .i64 l[i].w]:=fun _ _=>rfl
 have hgd:∀i (h:i<l.length),l[i].Good:=fun i h=>a1.2.2.2.1 _ (List.getElem_mem h)
 have hin:=fun i=>nV (P:=fun _=>True) (l:=l.take i) fun _ _ _ _=>trivial
 have hst:=fun i (h:i<l.length)=>nW h
 obtain ⟨C,hC⟩:∃C:Nat→Cut,C=fun i=>cC (l.take i):=⟨_,rfl⟩
 have hC0:C 0=iN:=by rw [hC]; rfl
 have hCe:C l.length=cC l:=by rw [hC]; simp only [List.take_length]
 have hCs:∀i (h:i<l.length),C (i+1)=(C i).step l[i]:=fun i h=>by rw [hC]; exact hst i h
 have hCi:∀i,i≤l.length→(C i).done.length+(if (C i).op then 1 else 0)≤i∧(C i).cur.closed=false∧((C i).op=false→(C i).cur.l=[]):=fun i hi=>by
  have h:=hin i
  have e:(l.take i).length=i:=by rw [List.length_take]; omega
  rw [hC]
  rw [e] at h
  exact ⟨h.num,h.opn,h.shut⟩
 have hCo:∀i (b:Bool),OkS m tol ⟨(C i).cur.x,(C i).cur.y,(C i).cur.l,b⟩:=fun i b=>by rw [hC]; exact hOk i b
 have hCn:∀i,i≤l.length→(C i).cur.Near:=fun i hi=>by rw [hC]; exact zl fun s hs=>a1.2.2.2.1 s (List.mem_of_mem_take hs)
 clear hin hst hC hOk
 obtain ⟨DA,hDA⟩:∃DA:Nat→List AV,DA=fun i=>DK m tol (C i).done:=⟨_,rfl⟩
 obtain ⟨RW,hRW⟩:∃RW:Nat→List AV,RW=fun i=>A5 m tol (C i).cur:=⟨_,rfl⟩
 obtain ⟨OP,hOP⟩:∃OP:Nat→Bool,OP=fun i=>(C i).op:=⟨_,rfl⟩
 obtain ⟨XX,hXX⟩:∃XX:Nat→Int,XX=fun i=>(C i).cur.x:=⟨_,rfl⟩
 obtain ⟨YY,hYY⟩:∃YY:Nat→Int,YY=fun i=>(C i).cur.y:=⟨_,rfl⟩
 obtain ⟨LA,hLA⟩:∃LA:Nat→PQ,LA=fun i=>gU (C i).cur.f (C i).cur.l:=⟨_,rfl⟩
 have hda0:DA 0=[]:=by rw [hDA]; simp only [hC0]; rfl
 have hx0:XX 0=0:=by rw [hXX]; simp only [hC0]; rfl
 have hy0:YY 0=0:=by rw [hYY]; simp only [hC0]; rfl
 have ho0:OP 0=false:=by rw [hOP]; simp only [hC0]; rfl
 have hla0:LA 0=au 0 0:=by rw [hLA]; simp only [hC0]; rfl
 have hdr:∀i,roL (DA i):=fun i=>by rw [hDA]; exact Dh _ _ _
 have hrr:∀i,roL (RW i):=fun i=>by rw [hRW]; exact cR _
 have hdl:∀i,i≤l.length→(DA i).length≤i:=fun i hi=>by
  have h:=(hCi i hi).1
  rw [hDA]; unfold DK; simp only [List.length_map]; omega
 have hnr:∀i,i≤l.length→(-2147483648<XX i∧XX i<2147483648) ∧ -2147483648<YY i∧YY i<2147483648:=fun i hi=>by rw [hXX,hYY]; exact ⟨(hCn i hi).x,(hCn i hi).y⟩
 have hrl:∀i,(RW i).length≤200000:=fun i=>by
  have h:=hCo i (C i).cur.closed
  have h1:=(dP h0 h.ok).1
  have h2:=h.len
  rw [hRW]; unfold A5 dE
  simp only [List.length_map,List.length_cons]
  simp only [Sub.f] at h1 h2 ⊢
  omega
 have hS1:∀i (h:i<l.length),l[i].k=1→DA (i+1)=DA i++(if OP i then [.agg [.sl 6 false (RW i),.bool false]] else [])∧RW (i+1)=[eA (m.app (au (l[i].v 0) (l[i].v 1)))]∧OP (i+1)=true∧XX (i+1)=l[i].v 0∧YY (i+1)=l[i].v 1∧LA (i+1)=au (l[i].v 0) (l[i].v 1):=fun i h k=>by
  have hb:=jD (c:=C i) k
  rw [←hCs i h] at hb
  have hcl:=(hCi i (by omega)).2.1
  rw [hDA,hRW,hOP,hXX,hYY,hLA]
  simp only [hb]
  refine ⟨?_,rfl,trivial,trivial,trivial,rfl⟩
  unfold DK
  rw [List.map_append]
  cases hop:(C i).op<;>simp [hcl]
 have hS2:∀i (h:i<l.length),l[i].k=6→DA (i+1)=DA i++[.agg [.sl 6 false (RW i),.bool true]]∧OP (i+1)=false∧XX (i+1)=XX i∧YY (i+1)=YY i∧LA (i+1)=au (XX i) (YY i):=fun i h k=>by
  have hb:=eO (c:=C i) k
  rw [←hCs i h] at hb
  rw [hDA,hRW,hOP,hXX,hYY,hLA]
  simp only [hb]
  refine ⟨?_,trivial,trivial,trivial,rfl⟩
  unfold DK
  rw [List.map_append]
  rfl
 have hS3:∀i (h:i<l.length),l[i].k≠1→l[i].k≠6→OkP m tol (LA i) l[i]∧DA (i+1)=DA i∧RW (i+1)=RW i++(bN m tol (LA i) l[i]).map eA∧OP (i+1)=true∧XX (i+1)=XX i∧YY (i+1)=YY i∧LA (i+1)=ea l[i]:=fun i h k1 k6=>by
  have hb:=fF (c:=C i) k1 k6
  rw [←hCs i h] at hb
  have hok:=(hCo (i+1) false).ok
  rw [hb] at hok
  simp only at hok
  have hp:=wL (i:=(C i).cur.l.length) (by simp) hok
  rw [List.take_left' rfl] at hp
  simp only [List.getElem_concat_length] at hp
  rw [hDA,hRW,hOP,hXX,hYY,hLA]
  simp only [hb]
  refine ⟨hp,trivial,?_,trivial,trivial,trivial,me _ _ _⟩
  unfold A5 dE
  simp only [Sub.f,kz,List.map_cons,List.map_append,List.cons_append]
 have hS4:∀i,i≤l.length→OP i=false→RW i=[eA (m.app (au (XX i) (YY i)))]∧LA i=au (XX i) (YY i):=fun i h ho=>by
  have hs:=(hCi i h).2.2
  rw [hOP] at ho
  rw [hRW,hXX,hYY,hLA]
  simp only [hs ho]
  unfold A5 dE
  simp only [hs ho]
  exact ⟨rfl,rfl⟩
 clear hCs hCn hCo hC0
 obtain ⟨OUT,hOUT⟩:∃OUT:Nat→List AV,OUT=fun i=>DA i++(if OP i then [.agg [.own 6 4 0 (RW i).length,.bool false]] else []):=⟨_,rfl⟩
 have hou0:OUT 0=[]:=by rw [hOUT]; simp only [hda0,ho0]; rfl
 obtain ⟨HB,hHB⟩:∃HB:Nat→List (Nat×BS),HB=fun i=>(if OP i then [(4,.live 6 (RW i))] else []):=⟨_,rfl⟩
 have hhb0:HB 0=[]:=by rw [hHB]; simp only [ho0]; rfl
 have hHt:∀i,OP i=true→HB i=[(4,.live 6 (RW i))]∧OUT i=DA i++[.agg [.own 6 4 0 (RW i).length,.bool false]]:=fun i h=>by rw [hHB,hOUT]; simp [h]
 have hHf:∀i,OP i=false→HB i=[]∧OUT i=DA i:=fun i h=>by rw [hHB,hOUT]; simp [h]
 clear hHB hOUT
 unfold il at *
 generalize l.map Sg.av=V at *
 have vrr:=fun rn=>renL_ro rn _ hsr
 have vrc:=cloL_ro (n:=5) _ hsr
 have mrr:=fun rn=>renL_ro rn _ mro
 have mrc:=cloL_ro (n:=5) _ mro
 have trr:=fun rn=>renL_ro rn _ tro
 have trc:=cloL_ro (n:=5) _ tro
 have ic0:(-2147483648<(0:Int)∧(0:Int)<2147483648):=by omega
 refine aj 5 (α:={p:Nat×Int×Int // p.1≤l.length∧au p.2.1 p.2.2=LA p.1∧(-2147483648<p.2.1∧p.2.1<2147483648) ∧ -2147483648<p.2.2∧p.2.2<2147483648})
  (fun p=>[(0,.sl 8 false V),(4,.ptr 0 0 0),(5,.ptr 1 0 0),(6,.ptr 2 0 0),(7,b9 2 3 (OUT p.1.1)),(8,.int .i64 (XX p.1.1)),(9,.int .i64 (YY p.1.1)),(10,.int .i64 p.1.2.1),(11,.int .i64 p.1.2.2),(12,.bool (OP p.1.1)),(13,.int .i64 p.1.1)])
  (fun p=>[(0,.live 18 [.agg M]),(1,.live 3 [.agg (fC tol)]),(2,.live 2 [.agg [.sl 0 true [],.int .i64 0]])]++(dZ 2 3 (OUT p.1.1)++HB p.1.1)) (fun p=>l.length-p.1.1) ⟨(0,0,0),Nat.zero_le _,hla0.symm,ic0,ic0⟩ [] (by simp) (by simp [nm]) (by simp)
  (by simp -implicitDefEqProofs [go_sem,hou0,ho0,hx0,hy0,vrr,vrc]) (by simp -implicitDefEqProofs [go_sem,hou0,hhb0,mrr,mrc]) fun ⟨⟨i,x,y⟩,hi,hxy,hx,hy⟩=>?_
 simp only at hi hxy hx hy ⊢
 have hdi:=hdl i hi
 have hni:=hnr i hi
 have hdri:=hdr i
 have hrri:=hrr i
 have hrli:=hrl i
 by_cases a:i<l.length
 ·have a1':(i:Int)<l.length:=by omega
  have es:=wS i (by omega)
  have gi:=hVg i a
  have hcs:=hcs i a
  have hg:=hgd i a
  have s1:=hS1 i a
  have s2:=hS2 i a
  have s3:=hS3 i a
  have s4:=hS4 i hi
  have hdr1:=hdr (i+1)
  have hrr1:=hrr (i+1)
  have ht1:=hHt (i+1)
  have hf1:=hHf (i+1)
  have ht0:=hHt i
  have hf0:=hHf i
  have scs:=l[i].ro_cs
  have slen:l[i].cs.length=8:=rfl
  have stk:l[i].cs.take 8=l[i].cs:=rfl
  have kend:=tG l[i] hg
  have kav:l[i].av = .agg l[i].cs:=rfl
  rw [kav] at kend
  clear hS1 hS2 hS3 hS4 hHt hHf hVg hgd hou0 hhb0 hda0 hx0 hy0 ho0 hla0
  generalize l[i]=s at *
  have dr1:=fun rn=>renL_ro rn _ hdr1
  have dc1:=cloL_ro (n:=5) _ hdr1
  have rr1:=fun rn=>renL_ro rn _ hrr1
  have rc1:=cloL_ro (n:=5) _ hrr1
  have dr0:=fun rn=>renL_ro rn _ hdri
  have dc0:=cloL_ro (n:=5) _ hdri
  have dq0:=fun g R=>frqL_ro g R _ hdri
  have rr0:=fun rn=>renL_ro rn _ hrri
  have rc0:=cloL_ro (n:=5) _ hrri
  have eq0:=fun g R (p:PQ)=>frqL_ro g R _ (qS p)
  have tk1:∀X:AV,(DA i++[X]).take ((DA i).length+1)=DA i++[X]:=fun X=>List.take_of_length_le (by simp)
  have mq0:=fun g R=>frqL_ro g R _ mro
  have tq0:=fun g R=>frqL_ro g R _ tro
  have vq0:=fun g R=>frqL_ro g R _ hsr
  have wd:IntKind.i64.wrap ((DA i).length:Int)=(DA i).length:=by rw [bO (by omega)]
  have hv:=fun k hk=>hg.v k hk
  have hcv:OkP m tol (LA i) s→∃q d,ab Tryz.prog 72 [gL (bQ (LA i) s m),.agg (fC tol)] (.agg [.sl 6 false (eA q::(bN m tol (LA i) s).map eA),.int .i64 d,.int .i64 0]):=fun hp=>by
   have hG:=hp.tr.good.1
   have kq:=zq (bQ (LA i) s m) tol hp.sz ht h0 hp.tr
   have e:vq (bQ (LA i) s m) tol=(((bQ (LA i) s m).headD hQ0).P::dq tol 14 (bQ (LA i) s m),cV tol 14 (bQ (LA i) s m),0):=by
    unfold vq
    rw [if_neg (fun h=>h hG),if_neg (by grind)]
   have e':bN m tol (LA i) s=dq tol 14 (bQ (LA i) s m):=by unfold bN; rw [e]; rfl
   rw [co] at kq
   rw [e']
   exact ⟨_,_,kq⟩
  by_cases k1:s.k=1
  ·obtain ⟨e1,e2,e3,e4,e5,e6⟩:=s1 k1
   obtain ⟨e7,e8⟩:=ht1 e3
   have v0:=hv 0 (by omega)
   have v1:=hv 1 (by omega)
   have k4:=kat (s.v 0) (s.v 1) ⟨v0.1,v0.2.1⟩ ⟨v1.1,v1.2.1⟩
   have ke:=kend (s.v 0) (s.v 1)
   have ex:iW s (s.v 0)=s.v 0:=by unfold iW; simp [k1]
   have ey:iX s (s.v 1)=s.v 1:=by unfold iX; simp [k1]
   rw [ex,ey] at ke
   cases hop:OP i
   ·obtain ⟨e9,e10⟩:=hf0 hop
    rw [e9,e10]
    simp -implicitDefEqProofs [go_sem,a,a1',hVl,gi,hcs,k1,hop]
    refine az (by kernel_rfl) ?_
    simp -implicitDefEqProofs [go_sem,mlen,mtk]
    refine ai _ k4 (by simp [go_sem,mro]) ?_
    simp -implicitDefEqProofs [go_sem,bR]
    refine bf (.inl rfl) (by omega) (by omega) (by simp -implicitDefEqProofs [go_sem]) (by simp<;>omega) (fun h=>by simp -implicitDefEqProofs [go_sem,aV,h]) ?_
    simp -implicitDefEqProofs [go_sem,wd,k1]
    rw [hcs,k1] at ke
    refine ai _ ke (by simp [go_sem]) ?_
    simp -implicitDefEqProofs [go_sem,es]
    rw [hop] at e1
    simp only [Bool.false_eq_true,if_false,List.append_nil] at e1
    rw [e1,e2] at e8
    rw [e2] at e7
    simp only [List.length_cons,List.length_nil,Nat.zero_add] at e8
    exact ae ⟨(i+1,s.v 0,s.v 1),a,e6.symm,⟨v0.1,v0.2.1⟩,v1.1,v1.2.1⟩ (by simp only; omega) [(3,16),(4,14)] (by simp) (by simp only [e7,e8,bh]; simp [nm]) (by simp)
     (by simp only [e3,e4,e5,e8,dF]; simp -implicitDefEqProofs [go_sem,es,vrr,vrc]) (by simp only [e7,e8,bh]; simp -implicitDefEqProofs [go_sem,bR,mrr,mrc,trr,trc,dr0,dc0,bp,be])
   ·obtain ⟨e9,e10⟩:=ht0 hop
    rw [e9,e10]
    simp -implicitDefEqProofs [go_sem,a,a1',hVl,gi,hcs,k1,hop]
    refine az (by kernel_rfl) ?_
    simp -implicitDefEqProofs [go_sem,mlen,mtk]
    refine ai _ k4 (by simp [go_sem,mro]) ?_
    simp -implicitDefEqProofs [go_sem,bR]
    refine ⟨by omega,?_⟩
    rw [hcs,k1] at ke
    refine ai _ ke (by simp [go_sem]) ?_
    simp -implicitDefEqProofs [go_sem,es]
    rw [hop] at e1
    simp only [if_true] at e1
    rw [e1,e2] at e8
    rw [e2] at e7
    simp only [List.length_cons,List.length_nil,Nat.zero_add] at e8
    refine l7 4 6 (RW i) (by simp -implicitDefEqProofs [go_sem]) ⟨(i+1,s.v 0,s.v 1),a,e6.symm,⟨v0.1,v0.2.1⟩,v1.1,v1.2.1⟩ (by simp only; omega) [(3,16),(4,14)] (by simp) (by simp only [e7,e8,bh]; simp [nm]) (by simp)
     ?_ ?_
    ·simp only [e3,e4,e5,e8,dF]; simp -implicitDefEqProofs [go_sem,es,vrr,vrc,vq0]
    ·simp only [e7,e8,bh]; simp -implicitDefEqProofs [go_sem,bR,mrr,mrc,trr,trc,dr0,dc0,dq0,mq0,tq0,bp,be,kL,tk1,eq0,rr0,rc0]
  cases hop:OP i
  ·obtain ⟨e9,e10⟩:=hf0 hop
   obtain ⟨e11,e12⟩:=s4 hop
   have k4:=kat (XX i) (YY i) hni.1 hni.2
   rw [e9,e10]
   simp -implicitDefEqProofs [go_sem,a,a1',hVl,gi,hcs,k1,hop,mlen,mtk]
   refine ai _ k4 (by simp [go_sem,mro]) ?_
   simp -implicitDefEqProofs [go_sem,bR]
   refine bf (.inl rfl) (by omega) (by omega) (by simp -implicitDefEqProofs [go_sem]) (by simp<;>omega) (fun h=>by simp -implicitDefEqProofs [go_sem,aV,h]) ?_
   by_cases k6:s.k=6
   ·obtain ⟨e1,e3,e4,e5,e6⟩:=s2 k6
    obtain ⟨e7,e8⟩:=hf1 e3
    have ke:=kend (XX i) (YY i)
    rw [show iW s (XX i)=XX i by unfold iW; simp [k6],show iX s (YY i)=YY i by unfold iX; simp [k6],hcs,k6] at ke
    simp -implicitDefEqProofs [go_sem,wd,k1,k6]
    refine ⟨by omega,?_⟩
    refine ai _ ke (by simp [go_sem]) ?_
    simp -implicitDefEqProofs [go_sem,es]
    rw [e1,e11] at e8
    refine l7 6 6 [.agg (eC (m.app (au (XX i) (YY i))))] (by simp -implicitDefEqProofs [go_sem]) ⟨(i+1,XX i,YY i),a,e6.symm,hni.1,hni.2⟩ (by simp only; omega) [(3,8)] (by simp) (by simp only [e7,e8,bh]; simp [nm]) (by simp) ?_ ?_
    ·simp only [e3,e4,e5,e8,dF]; simp -implicitDefEqProofs [go_sem,es,vrr,vrc,vq0]
    ·simp only [e7,e8,bh]; simp -implicitDefEqProofs [go_sem,bR,mrr,mrc,trr,trc,dr0,dc0,dq0,mq0,tq0,bp,be,kL,tk1,eq0,rr0,rc0,or_imp,forall_and]
   ·obtain ⟨hp,e1,e2,e3,e4,e5,e6⟩:=s3 k1 k6
    obtain ⟨e7,e8⟩:=ht1 e3
    have ke:=kend (XX i) (YY i)
    have kx:=bS x 64 (by omega) (by omega) (by omega)
    have ky:=bS y 64 (by omega) (by omega) (by omega)
    rw [show ((64:Int):Rat)=64 from rfl] at kx ky
    have kc:=kof (LA i) s hp.f1 hg k1 k6
    rw [kav,←hxy,show eA (au x y) = .agg (fC ((x:Rat) / 64)++fC ((y:Rat) / 64)) from rfl] at kc
    obtain ⟨q,d,kq⟩:=hcv hp
    rw [←hxy] at kq
    have hin:=tI hg hni.1 hni.2
    have hat:au (iW s (XX i)) (iX s (YY i))=LA (i+1):=by rw [xO hg k1 k6,e6]
    have htl:=(hp.lines h0).choose_spec.2.2.1
    rw [←hxy] at e2 htl
    have hTl:((bN m tol (au x y) s).map eA).length≤16384:=by rw [List.length_map]; exact htl
    have renT:=fun rn=>renL_ro rn _ (cR (bN m tol (au x y) s))
    have cloT':=cloL_ro (n:=5) _ (cR (bN m tol (au x y) s))
    have rgl:=qU (bQ (au x y) s m)
    rw [e1,e2] at e8
    rw [e2] at e7
    rw [hcs] at ke kc
    generalize (bN m tol (au x y) s).map eA=T at *
    generalize gL (bQ (au x y) s m)=G at *
    have lx:(fC ((x:Rat) / 64)++fC ((y:Rat) / 64)).length=6:=rfl
    have lt:(fC ((x:Rat) / 64)++fC ((y:Rat) / 64)).take 6=fC ((x:Rat) / 64)++fC ((y:Rat) / 64):=rfl
    simp only [co] at kx ky
    simp -implicitDefEqProofs [go_sem,wd,k1,k6]
    refine ag kx ?_
    simp -implicitDefEqProofs [go_sem]
    refine ag ky ?_
    simp -implicitDefEqProofs [go_sem,lx,lt,mlen,mtk]
    refine ai _ kc (by simp [go_sem,aB,mro]) ?_
    simp -implicitDefEqProofs [go_sem,tlen,ttk]
    refine ai _ kq (by simp [go_sem,rgl,tro]) ?_
    simp -implicitDefEqProofs [go_sem]
    refine az (by kernel_rfl) ?_
    simp -implicitDefEqProofs [go_sem]
    refine ⟨by omega,by omega,by omega,by omega,?_⟩
    refine ai _ ke (by simp [go_sem]) ?_
    simp -implicitDefEqProofs [go_sem,es]
    rw [e11] at e7 e8
    exact ae ⟨(i+1,iW s (XX i),iX s (YY i)),a,hat,hin.1,hin.2⟩ (by simp only; omega) [(3,8),(4,21)] (by simp) (by simp only [e7,e8,bh]; simp [nm]) (by simp)
     (by simp only [e3,e4,e5,e8,dF]; simp -implicitDefEqProofs [go_sem,es,vrr,vrc]) (by simp only [e7,e8,bh]; simp -implicitDefEqProofs [go_sem,bR,mrr,mrc,trr,trc,dr0,dc0,bp,be,rr0,rc0,renT,cloT',or_imp,forall_and]<;>omega)
  ·obtain ⟨e9,e10⟩:=ht0 hop
   rw [e9,e10]
   simp -implicitDefEqProofs [go_sem,a,a1',hVl,gi,hcs,k1,hop,mlen,mtk]
   by_cases k6:s.k=6
   ·obtain ⟨e1,e3,e4,e5,e6⟩:=s2 k6
    obtain ⟨e7,e8⟩:=hf1 e3
    have ke:=kend (XX i) (YY i)
    rw [show iW s (XX i)=XX i by unfold iW; simp [k6],show iX s (YY i)=YY i by unfold iX; simp [k6],hcs,k6] at ke
    simp -implicitDefEqProofs [go_sem,wd,k1,k6]
    refine ⟨by omega,?_⟩
    refine ai _ ke (by simp [go_sem]) ?_
    simp -implicitDefEqProofs [go_sem,es]
    rw [e1] at e8
    refine l7 4 6 (RW i) (by simp -implicitDefEqProofs [go_sem]) ⟨(i+1,XX i,YY i),a,e6.symm,hni.1,hni.2⟩ (by simp only; omega) [] (by simp) (by simp only [e7,e8,bh]; simp [nm]) (by simp) ?_ ?_
    ·simp only [e3,e4,e5,e8,dF]; simp -implicitDefEqProofs [go_sem,es,vrr,vrc,vq0]
    ·simp only [e7,e8,bh]; simp -implicitDefEqProofs [go_sem,bR,mrr,mrc,trr,trc,dr0,dc0,dq0,mq0,tq0,bp,be,kL,tk1,eq0,rr0,rc0,or_imp,forall_and]
   ·obtain ⟨hp,e1,e2,e3,e4,e5,e6⟩:=s3 k1 k6
    obtain ⟨e7,e8⟩:=ht1 e3
    have ke:=kend (XX i) (YY i)
    have kx:=bS x 64 (by omega) (by omega) (by omega)
    have ky:=bS y 64 (by omega) (by omega) (by omega)
    rw [show ((64:Int):Rat)=64 from rfl] at kx ky
    have kc:=kof (LA i) s hp.f1 hg k1 k6
    rw [kav,←hxy,show eA (au x y) = .agg (fC ((x:Rat) / 64)++fC ((y:Rat) / 64)) from rfl] at kc
    obtain ⟨q,d,kq⟩:=hcv hp
    rw [←hxy] at kq
    have hin:=tI hg hni.1 hni.2
    have hat:au (iW s (XX i)) (iX s (YY i))=LA (i+1):=by rw [xO hg k1 k6,e6]
    have htl:=(hp.lines h0).choose_spec.2.2.1
    rw [←hxy] at e2 htl
    have hTl:((bN m tol (au x y) s).map eA).length≤16384:=by rw [List.length_map]; exact htl
    have renT:=fun rn=>renL_ro rn _ (cR (bN m tol (au x y) s))
    have cloT':=cloL_ro (n:=5) _ (cR (bN m tol (au x y) s))
    have rgl:=qU (bQ (au x y) s m)
    rw [e1,e2] at e8
    rw [e2] at e7
    rw [hcs] at ke kc
    generalize (bN m tol (au x y) s).map eA=T at *
    generalize gL (bQ (au x y) s m)=G at *
    have lx:(fC ((x:Rat) / 64)++fC ((y:Rat) / 64)).length=6:=rfl
    have lt:(fC ((x:Rat) / 64)++fC ((y:Rat) / 64)).take 6=fC ((x:Rat) / 64)++fC ((y:Rat) / 64):=rfl
    simp only [co] at kx ky
    simp -implicitDefEqProofs [go_sem,wd,k1,k6]
    refine ag kx ?_
    simp -implicitDefEqProofs [go_sem]
    refine ag ky ?_
    simp -implicitDefEqProofs [go_sem,lx,lt,mlen,mtk]
    refine ai _ kc (by simp [go_sem,aB,mro]) ?_
    simp -implicitDefEqProofs [go_sem,tlen,ttk]
    refine ai _ kq (by simp [go_sem,rgl,tro]) ?_
    simp -implicitDefEqProofs [go_sem]
    refine az (by kernel_rfl) ?_
    simp -implicitDefEqProofs [go_sem]
    refine ⟨by omega,by omega,by omega,by omega,?_⟩
    refine ai _ ke (by simp [go_sem]) ?_
    simp -implicitDefEqProofs [go_sem,es]
    exact ae ⟨(i+1,iW s (XX i),iX s (YY i)),a,hat,hin.1,hin.2⟩ (by simp only; omega) [(4,18)] (by simp) (by simp only [e7,e8,bh]; simp [nm]) (by simp)
     (by simp only [e3,e4,e5,e8,dF]; simp -implicitDefEqProofs [go_sem,es,vrr,vrc]) (by simp only [e7,e8,bh]; simp -implicitDefEqProofs [go_sem,bR,mrr,mrc,trr,trc,dr0,dc0,bp,be,rr0,rc0,renT,cloT',or_imp,forall_and])
 have b1:¬(i:Int)<l.length:=by omega
 have hii:i=l.length:=by omega
 subst hii
 have hsub:aU l=(C l.length).done++(if (C l.length).op then [(C l.length).cur] else []):=by rw [hCe]; rfl
 have hRAW:DA l.length++(if OP l.length then [.agg [.sl 6 false (RW l.length),.bool false]] else [])=DK m tol (aU l):=by
  have hcl:=(hCi l.length (Nat.le_refl _)).2.1
  rw [hsub,hDA,hOP,hRW]
  unfold DK
  simp only [List.map_append]
  cases hop:(C l.length).op<;>simp [hcl]
 have hlen:(aU l).length≤12:=by
  have h:=(hCi l.length (Nat.le_refl _)).1
  rw [hsub,List.length_append]
  cases hop:(C l.length).op<;>rw [hop] at h<;>simp at h ⊢ <;> omega
 have hsum:((aU l).map fun u=>u.l.length).sum≤12:=by
  have h:=(nV (P:=fun _=>True) (l:=l) fun _ _ _ _=>trivial).len
  unfold aU Cut.all
  rw [List.map_append,List.sum_append]
  cases hop:(cC l).op<;>simp [hop]<;>omega
 have hLin:dM l m tol=(aU l).map (ly m tol):=rfl
 rw [hLin] at hX'
 generalize aU l=S at *
 have htot:∀j,ic m tol (S.take j)≤196620:=fun j=>by
  have h1:=s7 h0 (D:=S.take j) fun u hu=>hOa u (List.mem_of_mem_take hu)
  have h2:((S.take j).map fun u=>u.l.length).sum≤(S.map fun u=>u.l.length).sum:=by
   conv=>rhs; rw [←List.take_append_drop j S]
   rw [List.map_append,List.sum_append]; omega
  have h3:(S.take j).length≤12:=by rw [List.length_take]; omega
  omega
 obtain ⟨RAW,hRW'⟩:∃RAW,RAW=DK m tol S:=⟨_,rfl⟩
 obtain ⟨CLN,hCLN⟩:∃CLN,CLN=(S.map (ly m tol)).map tJ:=⟨_,rfl⟩
 have rl:RAW.length=S.length:=by rw [hRW']; unfold DK; simp
 have cl:CLN.length=S.length:=by rw [hCLN]; simp
 have rr:roL RAW:=by rw [hRW']; exact Dh _ _ _
 have cr:roL CLN:=by rw [hCLN]; exact sJ _
 have rg:∀j (h:j<RAW.length) (h':j<S.length),RAW[j] = .agg [.sl 6 false (A5 m tol S[j]),.bool S[j].closed]:=fun j h h'=>by simp only [hRW',DK,List.getElem_map]
 have cg:∀j (h:j<CLN.length) (h':j<S.length),CLN[j] = .agg [.sl 6 false ((bz (dE m tol S[j]) S[j].closed).map eA),.bool S[j].closed]:=fun j h h'=>by simp only [hCLN,List.getElem_map]; rfl
 obtain ⟨LST,hLST⟩:∃LST:Nat→List AV,LST=fun j=>CLN.take j++RAW.drop j:=⟨_,rfl⟩
 have l0:LST 0=RAW:=by rw [hLST]; simp
 have lN:LST S.length=CLN:=by rw [hLST]; simp only; rw [List.take_of_length_le (by omega),List.drop_of_length_le (by omega),List.append_nil]
 have ll:∀j,j≤S.length→(LST j).length=S.length:=fun j hj=>by rw [hLST]; simp only [List.length_append,List.length_take,List.length_drop]; omega
 have lr:∀j,roL (LST j):=fun j=>by rw [hLST]; exact aB.2 ⟨bB cr,uJ rr⟩
 have lg:∀j (h:j<(LST j).length) (h':j<S.length),(LST j)[j] = .agg [.sl 6 false (A5 m tol S[j]),.bool S[j].closed]:=fun j h h'=>by
  simp only [hLST]
  rw [List.getElem_append_right (by rw [List.length_take]; omega)]
  simp only [List.length_take,List.getElem_drop]
  have e:j+(j-min j CLN.length)=j:=by omega
  rw [←rg j (by omega) h']
  simp only [e]
 have ls:∀j (h:j<S.length),(LST j).set j (CLN[j]'(by omega))=LST (j+1):=fun j h=>by
  have h1:j<(LST j).length:=by rw [ll j (by omega)]; exact h
  refine List.ext_getElem (by rw [List.length_set,ll j (by omega),ll (j+1) h]) fun k h2 h3=>?_
  rw [List.getElem_set]
  have h4:k<S.length:=by rw [ll (j+1) h] at h3; exact h3
  by_cases hk:j=k
  ·subst hk
   rw [if_pos rfl]
   simp only [hLST]
   rw [List.getElem_append_left (by rw [List.length_take]; omega),List.getElem_take]
  ·rw [if_neg hk]
   simp only [hLST]
   by_cases hkj:k<j
   ·rw [List.getElem_append_left (by rw [List.length_take]; omega),List.getElem_append_left (by rw [List.length_take]; omega),List.getElem_take,List.getElem_take]
   ·rw [List.getElem_append_right (by rw [List.length_take]; omega),List.getElem_append_right (by rw [List.length_take]; omega)]
    simp only [List.length_take,List.getElem_drop]
    congr 1
    omega
 rw [←hRW'] at hRAW
 have hXe:vR X = .agg [.sl 2 false CLN,.int .i64 0]:=by rw [hX',hCLN]; rfl
 rw [hXe]
 simp -implicitDefEqProofs [go_sem,b1,hVl]
 have zr:∀i,(dE m tol i).length=(A5 m tol i).length:=fun i=>by unfold A5; simp
 have kcl:=fun j (h:j<S.length)=>by
  have ho:=hOa _ (List.getElem_mem h)
  have hf:=dP h0 ho.ok
  have hlu:=ho.len
  have hz:=happ S[j].f ho.f1
  exact tF (dE m tol S[j]) S[j].closed (by unfold dE; rw [List.length_cons]; omega) (fun p hp=>by
   unfold dE at hp
   rcases List.mem_cons.1 hp with rfl|hp
   ·omega
   ·have:=hf.2 p hp; omega)
 have cr5:=fun j=>cloL_ro (n:=5) _ (lr j)
 have lrr:=fun j rn=>renL_ro rn _ (lr j)
 have rr5:=cloL_ro (n:=5) _ rr
 have rrr:=fun rn=>renL_ro rn _ rr
 refine Cb 5 (α:={j:Nat // j≤S.length}) (fun j=>[(6,.ptr 2 0 0),(7,b9 2 3 (LST j.1)),(20,.int .i64 (ic m tol (S.take j.1):Nat)),(21,.int .i64 j.1)]) (fun j=>(2,.live 2 [.agg [.sl 0 true [],.int .i64 0]])::dZ 2 3 (LST j.1)) (fun j=>S.length-j.1) ⟨0,Nat.zero_le _⟩ ?_ ?_
 ·have t0:ic m tol []=0:=rfl
  cases hop:OP l.length
  ·obtain ⟨e9,e10⟩:=hHf l.length hop
   rw [hop] at hRAW
   simp only [Bool.false_eq_true,if_false,List.append_nil] at hRAW
   rw [hRAW] at e10
   refine dz [] (by simp) (by simp [nm]) (by simp) (by simp -implicitDefEqProofs [go_sem,l0,e10,t0]) (by simp -implicitDefEqProofs [go_sem,l0,e9,e10,rr5,rrr,aV])
  ·obtain ⟨e9,e10⟩:=hHt l.length hop
   rw [hop] at hRAW
   simp only [if_true] at hRAW
   have hne:RAW≠[]:=by rw [←hRAW]; simp
   have hlR:RAW.length=(DA l.length).length+1:=by rw [←hRAW]; simp
   have dq0:=fun g R=>frqL_ro g R _ hdri
   refine (j5 4 6 (RW l.length) ?_).trans (dz [] (by simp) (by simp [nm]) (by simp) ?_ ?_)
   ·simp -implicitDefEqProofs [go_sem,e9]
   ·simp -implicitDefEqProofs [go_sem,l0,e10,t0,aN hne,hlR]
   ·simp -implicitDefEqProofs [go_sem,l0,e9,e10,aJ hne,rr5,rrr,aV,kL,dq0]
    exact hRAW
 ·intro ⟨j,hj⟩
  simp only
  have hjl:=ll j hj
  have hjt:=htot j
  by_cases a:j<S.length
  ·have a1:(j:Int)<S.length:=by omega
   have es:=wS j (by omega)
   have kc:=kcl j a
   have hne:LST j≠[]:=fun h=>by rw [h] at hjl; simp at hjl; omega
   have hne1:LST (j+1)≠[]:=fun h=>by have:=ll (j+1) a; rw [h] at this; simp at this; omega
   have b0:j<(LST j).length:=by omega
   have b2:j<(LST (j+1)).length:=by have:=ll (j+1) a; omega
   have g0:=lg j b0 a
   have hset:=ls j a
   rw [cg j (by omega) a] at hset
   have g1:(LST (j+1))[j]'b2 = .agg [.sl 6 false ((bz (dE m tol S[j]) S[j].closed).map eA),.bool S[j].closed]:=by
    simp only [←hset]
    exact List.getElem_set_self _
   have ts:ic m tol (S.take (j+1))=ic m tol (S.take j)+(bz (dE m tol S[j]) S[j].closed).length:=by
    rw [List.take_succ_eq_append_getElem a,rd]; rfl
   have hl1:=ll (j+1) a
   have hjt1:=htot (j+1)
   have wt:IntKind.i64.wrap ((ic m tol (S.take j):Nat)+((bz (dE m tol S[j]) S[j].closed).map eA).length:Int)=(ic m tol (S.take (j+1)):Nat):=by
    rw [bO (by rw [List.length_map]; omega),List.length_map]; omega
   have rraw:=cR (dE m tol S[j])
   unfold Iu eL at kc
   rw [show (dE m tol S[j]).map eA=A5 m tol S[j] from rfl] at kc rraw
   generalize A5 m tol S[j]=RJ at *
   generalize (bz (dE m tol S[j]) S[j].closed).map eA=CJ at *
   simp only [aN hne,aJ hne]
   simp -implicitDefEqProofs [go_sem,a,a1,hjl,b0,g0]
   refine ai _ kc (by simp [go_sem,rraw]) ?_
   simp -implicitDefEqProofs [go_sem,a,a1,hjl,b0,g0,hset,g1,b2,hl1]
   exact ae ⟨j+1,a⟩ (by simp only; omega) [] (by simp) (by simp [nm]) (by simp) (by simp -implicitDefEqProofs [go_sem,aN hne1,hl1,es,wt]) (by simp -implicitDefEqProofs [go_sem,aJ hne1,lrr,cr5])
  ·have a1:¬(j:Int)<S.length:=by omega
   have hjS:j=S.length:=by omega
   subst hjS
   have n1:¬(1048576:Int)<(ic m tol S:Nat):=by rw [List.take_length] at hjt; omega
   rw [lN]
   rw [lN] at hjl
   by_cases hce:CLN=[]
   ·subst hce
    simp -implicitDefEqProofs [go_sem,a1,hjl,n1,cl,aS]
    exact ⟨List.length_eq_zero_iff.1 (by simpa using cl.symm),Wk.agg (.cons (Wk.nil 0 2 true) (.cons (Wk.refl _) .nil))⟩
   ·simp only [aN hce,aJ hce]
    have htk:CLN.take S.length=CLN:=List.take_of_length_le (by omega)
    simp -implicitDefEqProofs [go_sem,a1,hjl,n1,cl,aS,cr,htk]
    exact Wk.refl _
theorem k_ (l:List Sg) (m:MR) (tol:RQ) (hl:l.length≤9223372036854775807) (hm:m.Lm) (ht:tol.Lm):ab Tryz.prog 3 [il l,m.av,tol.av] (.bool true):=by
 have kw:=mQ
 obtain ⟨b,kl,hb⟩:=mP l m tol hl hm ht
 have hsr:=dN l
 have hl2:=fun h=>mL hl (hb h)
 have key:b=true→ab Tryz.prog 17 [il l,vP m.val,fA tol.val] (vR (dL l m.val tol.val))∧ab Tryz.prog 18 [m.av] (vP m.val)∧ab Tryz.prog 19 [tol.av] (fA tol.val)∧l.length≤12:=fun h=>by
  obtain ⟨h1,h2,h3,h4⟩:=hb h
  have hmz:sz m.val.a≤6∧sz m.val.b≤6∧sz m.val.c≤6∧sz m.val.d≤6∧sz m.val.e≤6∧sz m.val.f≤6:=⟨h2.a.sz,h2.b.sz,h2.c.sz,h2.d.sz,h2.e.sz,h2.f.sz⟩
  refine ⟨tH l m.val tol.val hl hmz (by have:=h3.sz; omega) (fun q hq=>by have:=nL h2 (by omega) hq; omega) fun hG h0=>?_,ug m ⟨h2.a.mono,h2.b.mono,h2.c.mono,h2.d.mono,h2.e.mono,h2.f.mono⟩,tO tol h3.mono,h1⟩
  obtain ⟨t1,t2⟩:=h4 h0 hG
  refine ⟨h1,fun i b=>(jx hmz t1 h1 hG t2 i).1 b,?_⟩
  have:=(jx hmz t1 h1 hG t2 l.length).2
  rw [List.take_length] at this
  exact this
 have fine:b=true→(dL l m.val tol.val).1.length≤12∧∀p∈(dL l m.val tol.val).1,p.1.length≤196700∧∀q∈p.1,q.sz≤102:=fun h=>by
  obtain ⟨_,k⟩:=hl2 h
  unfold dL
  split
  ·simp
  ·rename_i hG
   split
   ·simp
   ·rename_i h0
    exact k (Classical.not_not.1 hG) (by grind)
 have k2:=fun h=>(hl2 h).1
 generalize dL l m.val tol.val=X at *
 clear hl2 hb
 have m0:m.cs.length=18:=rfl
 have m2:=m.ro_cs
 have m3:m.cs.take 18=m.cs:=rfl
 have c2:roL tol.cells:=by have:=yH tol; rw [show tol.av = .agg tol.cells from rfl] at this; simpa only [ro] using this
 have c0:tol.cells.length=3:=rfl
 have c3:tol.cells.take 3=tol.cells:=rfl
 have e2:=oX m.val
 have hVl:(l.map Sg.av).length=l.length:=by simp
 have kseg:=fun h=>AE l h
 rw [show vP m.val = .agg (lQ m.val) from rfl] at key
 unfold MR.av at *
 rw [show tol.av = .agg tol.cells from rfl] at *
 generalize m.cs=M at *
 generalize tol.cells=TC at *
 generalize lQ m.val=EM at *
 unfold il at *
 generalize l.map Sg.av=V at *
 simp only [co] at *
 have vrr:=fun rn=>renL_ro rn _ hsr
 have vrc:=cloL_ro (n:=4) _ hsr
 have mrr:=fun rn=>renL_ro rn _ m2
 have mrc:=cloL_ro (n:=4) _ m2
 have trr:=fun rn=>renL_ro rn _ c2
 have trc:=cloL_ro (n:=4) _ c2
 have mq0:=fun g R=>frqL_ro g R _ m2
 have tq0:=fun g R=>frqL_ro g R _ c2
 have vq0:=fun g R=>frqL_ro g R _ hsr
 refine ab.of_ca (by simp -implicitDefEqProofs [go_sem]) (CA.of_sp Tryz.func3 rfl [.tmp 6] rfl (by kernel_rfl) ?_)
 refine SP.seq true jd (by kernel_rfl) ?_
 simp -implicitDefEqProofs [go_sem,m0,c0]
 refine SP.seq true jd (by kernel_rfl) ?_
 simp -implicitDefEqProofs [go_sem,m0,m3,c0,c3]
 refine ai _ kl (by simp [go_sem,hsr,m2,c2]) ?_
 cases b
 ·simp -implicitDefEqProofs [go_sem]
  refine ag kw ?_
  simp -implicitDefEqProofs [go_sem]
  exact Wk.refl _
 obtain ⟨kr,km,kt,hl12⟩:=key rfl
 obtain ⟨f1,f2⟩:=fine rfl
 have k2:=k2 rfl
 have kseg:=kseg (by omega)
 simp -implicitDefEqProofs [go_sem]
 refine SP.seq true jd (by kernel_rfl) ?_
 simp -implicitDefEqProofs [go_sem,m0,m3,c0,c3,hVl]
 refine ⟨by omega,?_⟩
 refine SP.le (s':=xr 4 [(0,.sl 8 false V),(4,.ptr 0 0 0),(5,.ptr 1 0 0),(7,.sl 8 false V)] [(0,.live 18 [.agg M]),(1,.live 3 [.agg TC])]) ((j5 3 8 V (by simp -implicitDefEqProofs [go_sem])).trans (dz [] (by simp) (by simp [nm]) (by simp) ?_ ?_)) (SP.of_go true jd (by kernel_rfl) ?_)
 ·simp -implicitDefEqProofs [go_sem,hVl,vrr,vrc]
  exact List.take_of_length_le (by omega)
 ·simp -implicitDefEqProofs [go_sem,mrr,mrc,trr,trc,mq0,tq0]
 have ko:=rJ X.1 (by omega) (fun x hx=>⟨by have:=(f2 x hx).1; omega,fun p hp=>by have:=(f2 x hx).2 p hp; omega⟩)
 have kp:=wR X.1 (by omega) (fun x hx=>⟨by have:=(f2 x hx).1; omega,fun p hp=>by have:=(f2 x hx).2 p hp; omega⟩)
 obtain ⟨L,e⟩:=X
 unfold si vR at *
 have r1:=sM L
 have r2:=yD L
 have ee:=lh tol.val
 have e0:(fC tol.val).length=3:=rfl
 generalize fC tol.val=ET at *
 simp -implicitDefEqProofs [go_sem,m0,m3,c0,c3]
 refine ai _ k2 (by simp [go_sem,hsr,m2,c2]) ?_
 simp -implicitDefEqProofs [go_sem]
 refine az (by kernel_rfl) ?_
 simp -implicitDefEqProofs [go_sem,m0,m3,c0,c3]
 refine aC _ km (by simp [go_sem,m2]) ?_
 simp -implicitDefEqProofs [go_sem,m0,m3,c0,c3]
 refine aC _ kt (by simp [go_sem,c2]) ?_
 simp -implicitDefEqProofs [go_sem,m0,m3,c0,c3]
 refine aC _ kr (by simp [go_sem,hsr,e2,ee]) ?_
 simp -implicitDefEqProofs [go_sem]
 refine ai _ ko (by simp [go_sem,r2]) ?_
 simp -implicitDefEqProofs [go_sem]
 refine ai _ kp (by simp [go_sem,r1]) ?_
 simp -implicitDefEqProofs [go_sem]
 refine ai _ kseg (by simp [go_sem,hsr]) ?_
 simp -implicitDefEqProofs [go_sem]
 refine ag kw ?_
 simp -implicitDefEqProofs [go_sem]
 exact Wk.refl _
end Go.Proofs.YtdnmfaljidjijaaGreat
