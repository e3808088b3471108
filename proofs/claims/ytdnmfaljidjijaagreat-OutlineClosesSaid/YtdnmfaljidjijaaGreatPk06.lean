import Derived.Test.YtdnmfaljidjijaaGreatPk05
import Derived.Test.YtdnmfaljidjijaaGreatProg
import Derived.ProofKit
import Derived.Carry
namespace Go.Proofs.YtdnmfaljidjijaaGreat
open Go
set_option linter.unusedSimpArgs false
set_option linter.unusedVariables false
section
variable {P:Program} {z:Bool} {ne:Nat} {Q:AEx→St→Prop} {k:List Itm} {t:Nat→AV} {f:Nat→BS} {n:Nat}
theorem Em {id:Nat} {O:Array Oper} (g:(∀j,n≤j→f j = .fresh)→dY P false O n (n+O.size) (fun t f=>go P true ne Q k t (dB (n+O.size) f) (n+O.size)) O.size (Array.replicate O.size false) t f):go P true ne Q (.code (.region id O true)::k) t f n:=by
 simp only [go,mI,gE,Bool.and_true,cond_true] at g ⊢
 exact .inr (.inl g)
section ops
variable {y q:Bool} {O:Array Oper} {n0 i:Nat} {r:List Oper} {d:Option Tmp} {ty:TypeId} {pos:String} {after:Array Edge}
end ops
end
section
variable {P:Program} {rs:List ResultVar} {r:AV} {t:Nat→AV} {f f0:Nat→BS} {n n0:Nat} {K:AV→(Nat→BS)→Nat→Prop}
end
section
variable {P:Program} {z:Bool} {ne:Nat} {Q:AEx→St→Prop} {k:List Itm} {t:Nat→AV} {f:Nat→BS} {n:Nat}
end
theorem A_ {P:Program} {z:Bool} {ops:Array Oper} {n0 n:Nat} {K:(Nat→AV)→(Nat→BS)→Prop} {listed:Array Bool} {t:Nat→AV} {f:Nat→BS} (hr:Region.ready .any ops listed=[]) (h:K t f):dY P z ops n0 n K 0 listed t f:=by unfold dY; exact ⟨hr,h⟩
theorem jW {P:Program} {z:Bool} {ops:Array Oper} {n0 n fuel:Nat} {K:(Nat→AV)→(Nat→BS)→Prop} {listed:Array Bool} {t:Nat→AV} {f:Nat→BS} {i:Nat} (hr:Region.ready .any ops listed=[i]) (h:iH P z ops n0 n i (fun t' f'=>dY P z ops n0 n K fuel (listed.setIfInBounds i true) t' f') t f):dY P z ops n0 n K (fuel+1) listed t f:=by
 unfold dY
 rw [hr]
 refine ⟨fun e=>(by cases e),fun j hj=>?_⟩
 simp only [List.mem_cons,List.not_mem_nil,or_false] at hj
 subst hj
 exact h
theorem A9 {P:Program} {z:Bool} {ops:Array Oper} {n0 n fuel:Nat} {K:(Nat→AV)→(Nat→BS)→Prop} {listed:Array Bool} {t:Nat→AV} {f:Nat→BS} {i j:Nat} (hr:Region.ready .any ops listed=[i,j]) (h:iH P z ops n0 n i (fun t' f'=>dY P z ops n0 n K fuel (listed.setIfInBounds i true) t' f') t f) (h':iH P z ops n0 n j (fun t' f'=>dY P z ops n0 n K fuel (listed.setIfInBounds j true) t' f') t f):dY P z ops n0 n K (fuel+1) listed t f:=by
 unfold dY
 rw [hr]
 refine ⟨fun e=>(by cases e),fun m hm=>?_⟩
 simp only [List.mem_cons,List.not_mem_nil,or_false] at hm
 rcases hm with rfl|rfl
 ·exact h
 ·exact h'
theorem Bd {P:Program} {ops:Array Oper} {n0 n i:Nat} {K:(Nat→AV)→(Nat→BS)→Prop} {t:Nat→AV} {f:Nat→BS} {d a:Tmp} {ty T:TypeId} {pos:String} {af:Array Edge} {ti:TI} {b s:Nat} {cs:List AV}
 (ho:ops[i]?=some ⟨some d,.load ty (.tmp a),T,pos,af,none⟩) (hti:ak P ty=some ti) (hk:ti.kind.agg=true) (hm:cs.length=ti.size) (ha:t a = .ptr b 0 0) (hb:b<n0) (hf:f b = .live s [.agg cs]) (h:K (ar t d (.agg cs)) f):iH P false ops n0 n i K t f:=by
 have hz:fz (fe false true ops n0 i) f b = .live s [.agg cs]:=by rw [FF,if_neg (by omega)]; exact hf
 have ht:cs.take ti.size=cs:=by rw [←hm]; exact List.take_length
 unfold iH
 rw [ho]
 simp only [fY,aH,aS,hti,a_,ha,hz,hk,dD,AV.cells,List.getD_cons_zero,List.drop_zero,List.length_cons,List.length_nil,if_true,ht,hm,true_or,and_true,Nat.le_refl]
 exact ⟨by omega,h⟩
theorem xL {P:Program} {ops:Array Oper} {n0 n i:Nat} {K:(Nat→AV)→(Nat→BS)→Prop} {t:Nat→AV} {f:Nat→BS} {d:Tmp} {op:Op} {T:TypeId} {pos:String} {af:Array Edge} {s:Prop} {v:AV}
 (ho:ops[i]?=some ⟨some d,op,T,pos,af,none⟩) (hc:aH op = .v) (hv:iL P (a_ t) op=some (s,v)) (hs:s) (h:K (ar t d v) f):iH P false ops n0 n i K t f:=by
 unfold iH
 rw [ho]
 simp only [fY,hc,hv,aG]
 exact ⟨hs,h⟩
open Go Go.Proofs
@[go_sem] theorem K6:ak Tryz.prog 77=some ⟨1,24,(.slice 4),[(.sl 0 true [])]⟩:=by kernel_rfl
@[go_sem] theorem K7:ak Tryz.prog 78=some ⟨1,24,(.slice 79),[(.sl 0 true [])]⟩:=by kernel_rfl
@[go_sem] theorem Fm:ak Tryz.prog 79=some ⟨2,16,(.array 2 2),[(.int .i64 0),(.int .i64 0)]⟩:=by kernel_rfl
open Go.ChangeShapes Go.WideShapes Go.ChangeAt Go.RowKit
theorem Nv {H:Type} {enc:TypeId×Value→H} {g:FuncId} {fn:Func} {c:Code} {s:ChangeSpec} {t:TypeId} {a:AV} {W:World} {v0:Value} {d0:DataW H} {p0:List MemPlace}
 (hf:Tryz.prog.funcs[g]?=some fn) (hb:fn.body=some c) (hname:(fn.name == "runtime.NumGoroutine")=false) (hpar:fn.params = #[t]) (hres:fn.resultTypes = #[4]) (hvars:s.vars=[])
 (hfun:∀d:DataW H,s.fn H [d]={ results:=[.lit (.bool true)],args:=[d] })
 (hrd:Tryz.prog.readableRec t=true) (hsz:t<Tryz.prog.types.size)
 (hp:ab Tryz.prog g [a] (.bool true)) (hrl:∀cx:Cx,cx.w=W→(∀b,¬cx.F b)→Rl cx [a] [v0])
 (h0:DataW.Trod enc Tryz.prog W 0 (fun _=>true) true t v0 d0 p0) (hW:DataW.Whole enc Tryz.prog fn.params.toList s.vars false W [v0] [d0] [] p0) :
 Calls Tryz.prog g #[v0] W fun e W'=>∃v,e = .returned v∧s.post enc Tryz.prog fn false true false false W #[v0] v W':=by
 refine (ab.calls hf hb hname hp (vs:=[v0]) hrl).mono fun e W' ⟨v,he,hB,cx,hw,hr⟩=>?_
 subst he
 simp only [Rv] at hr
 subst hr
 have hlt:∀x∈p0,x.block<W.heap.size:=fun x hx=>by simpa using hW.lt x hx
 refine ⟨_,rfl,[d0],[],p0,[],p0,[],hW,?_,?_,?_,hB.frame _,fun h=>by cases h⟩
 ·rw [hres,List.append_nil,hfun]
  exact trodAll_mk1 (shut_bool Tryz.underBool true)
 ·rw [hpar,List.append_nil,hfun]
  simpa using trodAll_mk1 (Below.trod Tryz.laidOut hrd hsz h0 hB hlt)
 ·rw [hvars,List.append_nil,hfun]; rfl
set_option maxRecDepth 20000
theorem oV (x:Rat):(qc x).Lm:=⟨an (by omega) _,an (by omega) _⟩
theorem rf:∀(f:Nat) (a:PQ) (l:List PQ),∃r,fX f (a::l)=a::r
 | 0,a,l=>⟨l,rfl⟩
 | f+1,a,l=>by
  unfold fX
  split
  ·rename_i h
   obtain ⟨b,l,rfl⟩:∃b r,l=b::r:=by
    cases l with
    | nil=>simp at h
    | cons b r=>exact ⟨b,r,rfl⟩
   rw [List.dropLast_cons_cons]
   exact rf f a _
  ·exact ⟨l,rfl⟩
theorem vF (a:PQ) (l:List PQ) (c:Bool):∃r,bz (a::l) c=a::r:=by
 unfold bz
 split
 ·exact rf _ a _
 ·exact ⟨_,rfl⟩
section
variable {m:PQ→PQ} (hm:∀p q,m p=m q→p=q)
include hm
end
def N9 (V:List AV) (m:Int) (r:Loop) (T:Nat→AV):List (Nat×BS):=[(2,.live 1 [.sl 0 true []]),(3,.live 1 [.int .i64 0]),(20,.live 1 [b9 1 23 V]),(21,.live 1 [.int .i64 m]),(22,.obj (.loop r) T)]++dZ 1 23 V
theorem EG:(oJ cN).Lm:=⟨oV _,oV _,oV _,oV _,oV _,oV _⟩
theorem qj:∀(l:List Sg) (c:Cut),(∀u∈c.done,u.Near)→c.cur.Near→(∀s∈l,s.Good)→∀u∈(l.foldl Cut.step c).all,u.Near
 | [],c,h1,h2,_=>fun u hu=>by
  unfold Cut.all at hu
  rcases List.mem_append.1 hu with hu|hu
  ·exact h1 u hu
  ·split at hu
   ·rw [List.mem_singleton] at hu; subst hu; exact h2
   ·simp at hu
 | s::l,c,h1,h2,h=>by
  have hg:=h s (by simp)
  have v0:=hg.v 0 (by omega)
  have v1:=hg.v 1 (by omega)
  refine qj l (c.step s) ?_ ?_ fun x hx=>h x (by simp [hx])
  ·unfold Cut.step
   intro u hu
   split at hu
   ·rcases List.mem_append.1 hu with hu|hu
    ·exact h1 u hu
    ·split at hu
     ·rw [List.mem_singleton] at hu; subst hu; exact h2
     ·simp at hu
   ·split at hu
    ·rcases List.mem_append.1 hu with hu|hu
     ·exact h1 u hu
     ·rw [List.mem_singleton] at hu; subst hu; exact ⟨h2.x,h2.y⟩
    ·exact h1 u hu
  ·unfold Cut.step
   split
   ·exact ⟨⟨v0.1,v0.2.1⟩,v1.1,v1.2.1⟩
   ·split
    ·exact ⟨h2.x,h2.y⟩
    ·exact ⟨h2.x,h2.y⟩
theorem AJ {l:List Sg} (h:∀s∈l,s.Good):∀u∈aU l,u.Near :=
 qj l iN (by simp [iN]) ⟨by simp [iN],by simp [iN]⟩ h
def Dt (ops:Array Oper) (listed:Array Bool):Bool:=(List.range ops.size).all fun j => !listed.getD j false || match ops[j]? with
 | some o=>o.after.toList.all fun e => !Region.binds .any e || listed.getD e.on false
 | none=>true
theorem xm {ops:Array Oper} {listed:Array Bool} (h:Dt ops listed=true):mZ ops listed:=by
 intro j hj o ho e he hb
 unfold Dt at h
 rw [List.all_eq_true] at h
 have hlt:j<ops.size:=(Array.getElem?_eq_some_iff.1 ho).1
 have:=h j (List.mem_range.2 hlt)
 simp only [hj,Bool.not_true,Bool.false_or,ho,List.all_eq_true] at this
 have:=this e (by simpa using he)
 simpa [hb] using this
def oh (ops:Array Oper) (listed:Array Bool) (i:Nat):Bool:=(Region.ready .any ops listed).contains i && Dt ops listed && (List.range ops.size).all fun j=>listed.getD j true || j == i || match ops[i]?,ops[j]? with
 | some oi,some oj=>(decide (aH oi.op ≠ .g) || decide (i<j)) && oT false ops (vp [] ops.toList) i j oi oj
 | _,_=>false
theorem iR {P:Program} {ops:Array Oper} {n0 n fuel:Nat} {K:(Nat→AV)→(Nat→BS)→Prop} {listed:Array Bool} {t:Nat→AV} {f:Nat→BS} {i:Nat} (h:oh ops listed i=true) (hfr:∀j,j<ops.size→listed.getD j true=false→f (n0+j) = .fresh)
 (H:iH P false ops n0 n i (fun t' f'=>dY P false ops n0 n K fuel (listed.setIfInBounds i true) t' f') t f):dY P false ops n0 n K (fuel+1) listed t f:=by
 unfold oh at h
 simp only [Bool.and_eq_true,List.contains_iff_mem,List.all_eq_true] at h
 obtain ⟨⟨h1,h2⟩,h3⟩:=h
 obtain ⟨_,oi,hoi,_⟩:=mem_ready.1 h1
 refine nI hoi fuel listed t f (xm h2) (fun j oj hoj hji hun=>?_) h1 hfr H
 have hlt:j<ops.size:=(Array.getElem?_eq_some_iff.1 hoj).1
 have:=h3 j (List.mem_range.2 hlt)
 simp only [hun,Bool.false_or,hoi,hoj,Bool.or_eq_true,Bool.and_eq_true,decide_eq_true_eq,beq_iff_eq] at this
 rcases this with h4|⟨h4,h5⟩
 ·exact absurd h4 hji
 ·exact ⟨fun hg=>h4.resolve_left (fun hn=>hn hg),h5⟩
theorem xK {P:Program} {ops:Array Oper} {n0 n i:Nat} {K:(Nat→AV)→(Nat→BS)→Prop} {t:Nat→AV} {f:Nat→BS} {d:Tmp} {o:Operand} {ty e T:TypeId} {pos:String} {af:Array Edge} {ti te:TI} {x:AV}
 (ho:ops[i]?=some ⟨some d,.buildSlice ty 1 #[(0,o)],T,pos,af,none⟩) (hti:ak P ty=some ti) (hk:ti.kind = .slice e) (hte:ak P e=some te) (hs:te.size≤16777216) (hv:a_ t o=x) (hx:x.shaped te.size=true)
 (h:K (ar t d (.own te.size (n0+i) 0 1)) (ar f (n0+i) (.live te.size [x]))):iH P false ops n0 n i K t f:=by
 unfold iH
 rw [ho]
 simp only [fY,aH,pH,hti,hk,hte,List.map_cons,List.map_nil,hv,hx,List.all_cons,List.all_nil,Bool.and_self,Nat.one_mul,hs,and_true]
 rw [if_pos (by decide)]
 exact ⟨trivial,h⟩
theorem xJ {P:Program} {ops:Array Oper} {n0 n i:Nat} {K:(Nat→AV)→(Nat→BS)→Prop} {t:Nat→AV} {f:Nat→BS} {d a b:Tmp} {ty e T:TypeId} {pos:String} {af:Array Edge} {ti te:TI} {x:AV} {p q:Nat} {V:List AV}
 (ho:ops[i]?=some ⟨some d,.call ⟨.builtin .append,#[.tmp a,.tmp b],#[ty,ty]⟩,T,pos,af,none⟩) (hti:ak P ty=some ti) (hk:ti.kind = .slice e) (hte:ak P e=some te) (h0:0<te.size) (h0':0<te.bytes)
 (ha:t a=b9 te.size p V) (hb:t b = .own te.size q 0 1) (hq:f q = .live te.size [x]) (hp:V≠[]→f p = .live te.size V) (hl:((V.length+1:Nat):Int)*te.bytes≤70368744177664)
 (h:K (ar t d (.own te.size (n0+i) 0 (V.length+1))) (ar (kill p V f) (n0+i) (.live te.size (V++[x])))):iH P false ops n0 n i K t f:=by
 unfold iH
 rw [ho]
 by_cases hV:V=[]
 ·subst hV
  rw [jo] at ha
  simp only [fY,aH,i9,hti,hk,hte,a_,ha,hb,b_,cX,rb,hq,h0,h0',List.length_nil,List.length_cons,Bool.false_and,Bool.false_eq_true,false_implies,true_and,true_or,or_true,and_true,aG,Nat.zero_add,List.nil_append,List.drop_zero,List.take_succ_cons,List.take_zero,Nat.le_refl]
  simp only [kill,if_true,List.length_nil,Nat.zero_add,List.nil_append] at h hl
  exact ⟨hl,h⟩
 ·rw [aN hV] at ha
  simp only [fY,aH,i9,hti,hk,hte,a_,ha,hb,b_,cX,rb,hq,hp hV,h0,h0',List.length_nil,List.length_cons,Bool.false_and,Bool.false_eq_true,false_implies,true_and,true_or,or_true,and_true,aG,Nat.zero_add,List.nil_append,List.drop_zero,List.take_succ_cons,List.take_zero,Nat.le_refl,List.take_length]
  simp only [kill,if_neg hV] at h
  exact ⟨hl,h⟩
def Ba (O:Array Oper):Bool :=
 let F:=false
 let T:=true
 decide (O.size=9) && oh O #[F,F,F,F,F,F,F,F,F] 0 && oh O #[T,F,F,F,F,F,F,F,F] 1 && oh O #[T,T,F,F,F,F,F,F,F] 3 &&
  decide (Region.ready .any O #[T,T,F,T,F,F,F,F,F]=[2,4]∧Region.ready .any O #[T,T,T,T,F,F,F,F,F]=[4]∧Region.ready .any O #[T,T,F,T,T,F,F,F,F]=[2,5]∧Region.ready .any O #[T,T,T,T,T,F,F,F,F]=[5]∧Region.ready .any O #[T,T,F,T,T,T,F,F,F]=[2] ∧
   Region.ready .any O #[T,T,T,T,T,T,F,F,F]=[6]∧Region.ready .any O #[T,T,T,T,T,T,T,F,F]=[7]∧Region.ready .any O #[T,T,T,T,T,T,T,T,F]=[8]∧Region.ready .any O #[T,T,T,T,T,T,T,T,T]=[])
theorem x_ {P:Program} {ne:Nat} {Q:AEx→St→Prop} {k:List Itm} {t:Nat→AV} {f:Nat→BS} {n id:Nat} {O:Array Oper} {T1 T2 TL E1 E2 U0 U1 U2 U3 U4 U5 U6 U7 U8:TypeId} {p0 p1 p2 p3 p4 p5 p6 p7 p8:String} {a0 a1 a2 a3 a4 a5 a6 a7 a8:Array Edge} {d0 d1 d2 d3 d4 d5 d6 x0 x3 a:Tmp} {c:Value}
 (o0:O[0]?=some ⟨some d0,.move (.tmp x0),U0,p0,a0,none⟩) (o1:O[1]?=some ⟨some d1,.buildSlice T1 1 #[(0,.const c)],U1,p1,a1,none⟩) (o2:O[2]?=some ⟨some d2,.call ⟨.builtin .append,#[.tmp d0,.tmp d1],#[T1,T1]⟩,U2,p2,a2,none⟩)
 (o3:O[3]?=some ⟨some d3,.move (.tmp x3),U3,p3,a3,none⟩) (o4:O[4]?=some ⟨some d4,.load TL (.tmp a),U4,p4,a4,none⟩) (o5:O[5]?=some ⟨some d5,.buildSlice T2 1 #[(0,.tmp d4)],U5,p5,a5,none⟩) (o6:O[6]?=some ⟨some d6,.call ⟨.builtin .append,#[.tmp d3,.tmp d5],#[T2,T2]⟩,U6,p6,a6,none⟩)
 (o7:O[7]?=some ⟨some x0,.assign (.tmp d2),U7,p7,a7,none⟩) (o8:O[8]?=some ⟨some x3,.assign (.tmp d6),U8,p8,a8,none⟩) (hO:Ba O=true) (hd:[x0,x3,a,d0,d1,d2,d3,d4,d5,d6].Nodup)
 {NS te1 NT te2:TI} (h1:ak P T1=some NS) (k1:NS.kind = .slice E1) (e1:ak P E1=some te1) (s1:0<te1.size∧te1.size≤16777216∧0<te1.bytes) (h2:ak P T2=some NT) (k2:NT.kind = .slice E2) (e2:ak P E2=some te2) (s2:0<te2.size∧te2.size≤16777216∧0<te2.bytes) (hL:ak P TL=some te2) (hkL:te2.kind.agg=true)
 {V W cs:List AV} {p q b s:Nat} {x:AV} (hx0:t x0=b9 te1.size p V) (hx3:t x3=b9 te2.size q W) (ha:t a = .ptr b 0 0) (hb:f b = .live s [.agg cs]) (hcs:cs.length=te2.size) (hc:yT c=x) (hx:x.shaped te1.size=true)
 (hV:V≠[]→f p = .live te1.size V∧p<n) (hW:W≠[]→f q = .live te2.size W∧q<n) (hpq:V≠[]→W≠[]→p≠q) (hbn:b<n) (hpb:V≠[]→p≠b) (N9:((V.length+1:Nat):Int)*te1.bytes≤70368744177664) (hlW:((W.length+1:Nat):Int)*te2.bytes≤70368744177664)
 (g:go P true ne Q k (ar (ar (ar (ar (ar (ar (ar (ar (ar t d0 (b9 te1.size p V)) d1 (.own te1.size (n+1) 0 1)) d3 (b9 te2.size q W)) d2 (.own te1.size (n+2) 0 (V.length+1))) d4 (.agg cs)) d5 (.own te2.size (n+5) 0 1)) d6 (.own te2.size (n+6) 0 (W.length+1))) x0 (.own te1.size (n+2) 0 (V.length+1))) x3 (.own te2.size (n+6) 0 (W.length+1)))
  (dB (n+9) (ar (kill q W (ar (ar (kill p V (ar f (n+1) (.live te1.size [x]))) (n+2) (.live te1.size (V++[x]))) (n+5) (.live te2.size [.agg cs]))) (n+6) (.live te2.size (W++[.agg cs])))) (n+9)):go P true ne Q (.code (.region id O true)::k) t f n:=by
 unfold Ba at hO
 simp only [Bool.and_eq_true,decide_eq_true_eq] at hO
 obtain ⟨⟨⟨⟨hs,f0⟩,f1⟩,f3⟩,r24,r4,r25,r5,r2,r6,r7,r8,r9⟩:=hO
 refine Em fun hfr=>?_
 have ne':∀ {y z:Nat},y≠z→∀(u:Nat→AV) (v:AV),ar u z v y=u y:=fun h u v=>ac u _ v h
 simp only [List.nodup_cons,List.mem_cons,List.not_mem_nil,not_or,or_false,not_false_eq_true,and_true,List.nodup_nil] at hd
 obtain ⟨⟨n01,n02,n03,n04,n05,n06,n07,n08,n09⟩,⟨n12,n13,n14,n15,n16,n17,n18,n19⟩,⟨n23,n24,n25,n26,n27,n28,n29⟩,⟨n34,n35,n36,n37,n38,n39⟩,⟨n45,n46,n47,n48,n49⟩,⟨n56,n57,n58,n59⟩,⟨n67,n68,n69⟩,⟨n78,n79⟩,n89⟩:=hd
 have q0:=hfr n (Nat.le_refl _)
 have q1:=hfr (n+1) (by omega)
 have q2:=hfr (n+2) (by omega)
 have q5:=hfr (n+5) (by omega)
 have q6:=hfr (n+6) (by omega)
 rw [hs]
 obtain ⟨t3,ht3⟩:∃t3,t3=ar (ar (ar t d0 (b9 te1.size p V)) d1 (.own te1.size (n+1) 0 1)) d3 (b9 te2.size q W):=⟨_,rfl⟩
 obtain ⟨f3',hf3⟩:∃f3',f3'=ar f (n+1) (.live te1.size [x]):=⟨_,rfl⟩
 rw [←ht3,←hf3] at g
 have fL:=hfr
 refine iR f0 (fun j _ _=>hfr _ (by omega)) (xL o0 rfl rfl trivial ?_)
 rw [show a_ t (.tmp x0)=b9 te1.size p V from hx0]
 refine iR f1 (fun j _ _=>hfr _ (by omega)) (xK o1 h1 k1 e1 s1.2.1 (show a_ _ (.const c)=x from hc) hx ?_)
 refine iR f3 (fun j hj hun=>?_) (xL o3 rfl rfl trivial ?_)
 ·by_cases hj1:j=1
  ·subst hj1; cases hun
  ·rw [ac _ _ _ (by omega)]; exact hfr _ (by omega)
 rw [show a_ (ar (ar t d0 (b9 te1.size p V)) d1 (.own te1.size (n+1) 0 1)) (.tmp x3)=b9 te2.size q W by
  show ar (ar t d0 _) d1 _ x3=_
  rw [ac _ _ _ n14,ac _ _ _ n13]; exact hx3]
 rw [←ht3,←hf3]
 have u0:t3 d0=b9 te1.size p V:=by rw [ht3,ac _ _ _ n36,ac _ _ _ n34,ah]
 have u1:t3 d1 = .own te1.size (n+1) 0 1:=by rw [ht3,ac _ _ _ n46,ah]
 have u3:t3 d3=b9 te2.size q W:=by rw [ht3,ah]
 have ua:t3 a = .ptr b 0 0:=by rw [ht3,ac _ _ _ n26,ac _ _ _ n24,ac _ _ _ n23]; exact ha
 have g1:f3' (n+1) = .live te1.size [x]:=by rw [hf3,ah]
 have gp:V≠[]→f3' p = .live te1.size V:=fun h=>by rw [hf3,ac _ _ _ (by have:=(hV h).2; omega)]; exact (hV h).1
 have gq:W≠[]→f3' q = .live te2.size W:=fun h=>by rw [hf3,ac _ _ _ (by have:=(hW h).2; omega)]; exact (hW h).1
 have gb:f3' b = .live s [.agg cs]:=by rw [hf3,ac _ _ _ (by omega)]; exact hb
 clear ht3 hf3 hx0 hx3 ha hb hfr fL q0 q1 q2 q5 q6
 have kp:∀(F:Nat→BS) j,j≠p→kill p V F j=F j:=fun F j h=>by
  unfold kill; split
  ·rfl
  ·exact ac _ _ _ h
 have kpV:∀(F:Nat→BS) j,(V≠[]→p≠j)→kill p V F j=F j:=fun F j h=>by
  unfold kill; split
  ·rfl
  ·rename_i hv; exact ac _ _ _ (Ne.symm (h hv))
 have hpn:∀j,V≠[]→p≠n+j:=fun j h=>by have:=(hV h).2; omega
 have tail:dY P false O n (n+9) (fun t f=>go P true ne Q k t (dB (n+9) f) (n+9)) 3 #[true,true,true,true,true,true,false,false,false] (ar (ar (ar t3 d2 (.own te1.size (n+2) 0 (V.length+1))) d4 (.agg cs)) d5 (.own te2.size (n+5) 0 1))
  (ar (ar (kill p V f3') (n+2) (.live te1.size (V++[x]))) (n+5) (.live te2.size [.agg cs])):=by
  refine jW r6 (xJ o6 h2 k2 e2 s2.1 s2.2.2 (p:=q) (q:=n+5) (V:=W) (x := .agg cs) ?_ ?_ ?_ ?_ hlW ?_)
  ·rw [ac _ _ _ n68,ac _ _ _ n67,ac _ _ _ (Ne.symm n56)]; exact u3
  ·rw [ah]
  ·rw [ah]
  ·intro h
   have hq:=(hW h).2
   rw [ac _ _ _ (by omega),ac _ _ _ (by omega),kpV _ _ (fun hv=>hpq hv h)]
   exact gq h
  refine jW r7 (xL o7 rfl rfl trivial (jW r8 (xL o8 rfl rfl trivial (A_ r9 ?_))))
  have e7:∀T5:Nat→AV,a_ (ar T5 d6 (.own te2.size (n+6) 0 (W.length+1))) (.tmp d2)=T5 d2:=fun T5=>ac _ _ _ n59
  have e8:∀(T5:Nat→AV) (v:AV),a_ (ar (ar T5 d6 (.own te2.size (n+6) 0 (W.length+1))) x0 v) (.tmp d6) = .own te2.size (n+6) 0 (W.length+1):=fun T5 v=>by
   show ar (ar T5 d6 _) x0 v d6=_
   rw [ac _ _ _ (Ne.symm n09),ah]
  rw [e8,e7,ac _ _ _ n58,ac _ _ _ n57,ah]
  exact g
 have hap:∀(T:Nat→AV) (F:Nat→BS),T d0=b9 te1.size p V→T d1 = .own te1.size (n+1) 0 1→F (n+1) = .live te1.size [x]→(V≠[]→F p = .live te1.size V)→∀K:(Nat→AV)→(Nat→BS)→Prop,K (ar T d2 (.own te1.size (n+2) 0 (V.length+1))) (ar (kill p V F) (n+2) (.live te1.size (V++[x])))→iH P false O n (n+9) 2 K T F :=
  fun T F c1 c2 c3 c4 K hK=>xJ o2 h1 k1 e1 s1.1 s1.2.2 c1 c2 c3 c4 N9 hK
 have hld:∀(T:Nat→AV) (F:Nat→BS),T a = .ptr b 0 0→F b = .live s [.agg cs]→∀K:(Nat→AV)→(Nat→BS)→Prop,K (ar T d4 (.agg cs)) F→iH P false O n (n+9) 4 K T F :=
  fun T F c1 c2 K hK=>Bd o4 hL hkL hcs c1 hbn c2 hK
 have hbs:∀(T:Nat→AV) (F:Nat→BS),T d4 = .agg cs→∀K:(Nat→AV)→(Nat→BS)→Prop,K (ar T d5 (.own te2.size (n+5) 0 1)) (ar F (n+5) (.live te2.size [.agg cs]))→iH P false O n (n+9) 5 K T F :=
  fun T F c1 K hK=>xK o5 h2 k2 e2 s2.2.1 (show a_ T (.tmp d4) = .agg cs from c1) (by simp [AV.shaped,hcs]) hK
 have c24:∀v w:AV,ar (ar t3 d4 v) d2 w=ar (ar t3 d2 w) d4 v:=fun v w=>ig t3 v w (Ne.symm n57)
 have fb2:(ar (kill p V f3') (n+2) (.live te1.size (V++[x]))) b = .live s [.agg cs]:=by
  rw [ac _ _ _ (by omega),kpV _ _ hpb]; exact gb
 refine A9 r24 ?_ ?_
 ·refine hap _ _ u0 u1 g1 gp _ (jW r4 (hld _ _ ?_ fb2 _ (jW r5 (hbs _ _ (ah _ _ _) _ tail))))
  rw [ac _ _ _ n25]; exact ua
 ·refine hld _ _ ua gb _ (A9 r25 ?_ ?_)
  ·refine hap _ _ ?_ ?_ g1 gp _ (jW r5 (hbs _ _ ?_ _ ?_))
   ·rw [ac _ _ _ n37]; exact u0
   ·rw [ac _ _ _ n47]; exact u1
   ·rw [ac _ _ _ (Ne.symm n57),ah]
   ·rw [c24]; exact tail
  ·refine hbs _ _ (ah _ _ _) _ (jW r2 (hap _ _ ?_ ?_ ?_ ?_ _ ?_))
   ·rw [ac _ _ _ n38,ac _ _ _ n37]; exact u0
   ·rw [ac _ _ _ n48,ac _ _ _ n47]; exact u1
   ·rw [ac _ _ _ (by omega)]; exact g1
   ·intro h; rw [ac _ _ _ (hpn 5 h)]; exact gp h
   ·have hf:ar (kill p V (ar f3' (n+5) (.live te2.size [.agg cs]))) (n+2) (.live te1.size (V++[x]))=ar (ar (kill p V f3') (n+2) (.live te1.size (V++[x]))) (n+5) (.live te2.size [.agg cs]):=by
     have hk:kill p V (ar f3' (n+5) (.live te2.size [.agg cs]))=ar (kill p V f3') (n+5) (.live te2.size [.agg cs]):=by
      unfold kill
      split
      ·rfl
      ·rename_i hv; exact ig _ _ _ (Ne.symm (hpn 5 hv))
     rw [hk]
     exact ig _ _ _ (by omega)
    rw [hf,ig _ _ _ (Ne.symm n58),c24]
    exact tail
def pK (C:Cut):List AV:=C.all.map fun u => .bool u.closed
def qf (C:Cut):List AV:=C.all.map fun u => .agg [.int .i64 u.x,.int .i64 u.y]
theorem A7 {C:Cut} {s:Sg} (h:s.k=1):pK (C.step s)=pK C++[.bool false]∧qf (C.step s)=qf C++[.agg [.int .i64 (s.v 0),.int .i64 (s.v 1)]]:=by
 rw [jD h]
 unfold pK qf Cut.all
 simp
theorem yW {C:Cut} {s:Sg} (h1:s.k≠1) (h6:s.k≠6) (ho:C.op=true):pK (C.step s)=pK C∧qf (C.step s)=qf C:=by
 rw [fF h1 h6]
 unfold pK qf Cut.all
 simp [ho]
theorem yV {C:Cut} {s:Sg} (h1:s.k≠1) (h6:s.k≠6) (ho:C.op=false) (hc:C.cur.closed=false):pK (C.step s)=pK C++[.bool false]∧qf (C.step s)=qf C++[.agg [.int .i64 C.cur.x,.int .i64 C.cur.y]]:=by
 rw [fF h1 h6]
 unfold pK qf Cut.all
 simp [ho,hc]
theorem vv {C:Cut} {s:Sg} (h6:s.k=6) (ho:C.op=true):∃r,pK C=r++[.bool C.cur.closed]∧pK (C.step s)=r++[.bool true]∧qf (C.step s)=qf C:=by
 rw [eO h6]
 refine ⟨C.done.map fun u => .bool u.closed,?_,?_,?_⟩<;>(try unfold pK)<;>(try unfold qf)<;>unfold Cut.all<;>simp [ho]
theorem vu {C:Cut} {s:Sg} (h6:s.k=6) (ho:C.op=false):pK (C.step s)=pK C++[.bool true]∧qf (C.step s)=qf C++[.agg [.int .i64 C.cur.x,.int .i64 C.cur.y]]:=by
 rw [eO h6]
 unfold pK qf Cut.all
 simp [ho]
theorem DU (a b:Int):fJ Tryz.prog (some ⟨2,16,.array 2 2,[.int .i64 0,.int .i64 0]⟩) [(0,.int .i64 a),(1,.int .i64 b)]=some (True,.agg [.int .i64 a,.int .i64 b]):=by simp -implicitDefEqProofs [go_sem,fJ,jM]
set_option maxHeartbeats 32000000 in
theorem kb (l:List Sg) (hl:l.length≤9223372036854775807):ab Tryz.prog 6 [il l] (.bool true):=by
 have kw:=mQ
 have kone:=qD
 have kof:=eW 1 1 (by omega) (by omega) (by omega)
 rw [show ((1:Int):Rat) / ((1:Int):Rat)=1 by decide +kernel] at kof
 obtain ⟨b,kl,hb⟩:=mP l (oJ cN) (qc 1) hl EG (oV _)
 have kgd:=iV l hl
 have hsr:=dN l
 have m0:(oJ cN).cs.length=18:=rfl
 have m2:=(oJ cN).ro_cs
 have m3:(oJ cN).cs.take 18=(oJ cN).cs:=rfl
 have hr1:=cA 1
 have hl2:=fun h=>mL hl (hb h)
 rw [sj,cd] at hl2
 rw [show (qc 1).av=rA 1 from rfl] at kl hl2
 have hcs:∀i (h:i<l.length),l[i].cs=[.int .i64 l[i].k,.int .i64 (l[i].v 0),.int .i64 (l[i].v 1),.int .i64 (l[i].v 2),.int .i64 (l[i].v 3),.int .i64 (l[i].v 4),.int .i64 (l[i].v 5),.int .i64 l[i].w]:=fun _ _=>rfl
 have hVl:(l.map Sg.av).length=l.length:=by simp
 have hVg:∀i (h:i<l.length),bk (l.map Sg.av) (i:Int) = .agg l[i].cs:=fun i h=>ft h
 unfold MR.av at *
 generalize (oJ cN).cs=M at *
 unfold il at *
 generalize l.map Sg.av=V at *
 refine ab.of_ca (by simp -implicitDefEqProofs [go_sem]) (Cz Tryz.func6 rfl [.tmp 2] rfl ?_)
 simp only [eV] at *
 have lrc:∀x:Rat,(rC x).length=3:=fun _=>rfl
 have trc:∀x:Rat,(rC x).take 3=rC x:=fun _=>rfl
 have drc:∀x:Rat,(rC x).drop 3=[]:=fun _=>rfl
 simp -implicitDefEqProofs [go_sem]
 refine ag kone ?_
 simp -implicitDefEqProofs [go_sem]
 refine ag kof ?_
 simp -implicitDefEqProofs [go_sem,m0,m3,lrc,trc,drc]
 refine ai _ kl (by simp [go_sem,hsr,m2]) ?_
 cases b
 ·simp -implicitDefEqProofs [go_sem]
  refine ag kw ?_
  simp -implicitDefEqProofs [go_sem]
  exact Wk.refl _
 simp -implicitDefEqProofs [go_sem]
 refine ai _ kgd (by simp [go_sem,hsr]) ?_
 by_cases hG:bL l
 rotate_left
 ·simp -implicitDefEqProofs [go_sem,hG]
  refine ag kw ?_
  simp -implicitDefEqProofs [go_sem]
  exact Wk.refl _
 obtain ⟨k2,hf⟩:=hl2 rfl
 simp -implicitDefEqProofs [go_sem,hG,m0,m3,lrc,trc,drc]
 refine ai _ k2 (by simp [go_sem,hsr,m2]) ?_
 unfold dL
 rw [if_neg (fun h=>h hG),if_neg (by decide +kernel)]
 obtain ⟨f1,f2⟩:=hf hG (by decide +kernel)
 have hl12:=(hb rfl).1
 unfold si kg
 simp -implicitDefEqProofs [go_sem]
 have hin:=fun i=>nV (P:=fun _=>True) (l:=l.take i) fun _ _ _ _=>trivial
 have hst:=fun i (h:i<l.length)=>nW h
 obtain ⟨C,hC⟩:∃C:Nat→Cut,C=fun i=>cC (l.take i):=⟨_,rfl⟩
 have hC0:C 0=iN:=by rw [hC]; rfl
 have hCe:C l.length=cC l:=by rw [hC]; simp only [List.take_length]
 have hCs:∀i (h:i<l.length),C (i+1)=(C i).step l[i]:=fun i h=>by rw [hC]; exact hst i h
 have hCi:∀i,i≤l.length→(C i).done.length+(if (C i).op then 1 else 0)≤i∧(C i).cur.closed=false:=fun i hi=>by
  have h:=hin i
  have e:(l.take i).length=i:=by rw [List.length_take]; omega
  rw [hC]
  rw [e] at h
  exact ⟨h.num,h.opn⟩
 clear hin hst hC
 have hCl:∀i,i≤l.length→(pK (C i)).length≤i∧(qf (C i)).length=(pK (C i)).length:=fun i hi=>by
  have h:=(hCi i hi).1
  unfold pK qf Cut.all
  simp only [List.length_map,List.length_append]
  cases hop:(C i).op<;>rw [hop] at h<;>simp at h ⊢ <;> omega
 have hClr:∀D:Cut,roL (pK D):=fun D=>by unfold pK; exact bC fun u=>by simp only [ro]
 have hFir:∀D:Cut,roL (qf D):=fun D=>by unfold qf; exact bC fun u=>by simp only [ro,roL,and_self]
 obtain ⟨CL,hCL⟩:∃CL:Nat→List AV,CL=fun i=>pK (C i):=⟨_,rfl⟩
 obtain ⟨FI,hFI⟩:∃FI:Nat→List AV,FI=fun i=>qf (C i):=⟨_,rfl⟩
 obtain ⟨OP,hOP⟩:∃OP:Nat→Bool,OP=fun i=>(C i).op:=⟨_,rfl⟩
 obtain ⟨XX,hXX⟩:∃XX:Nat→Int,XX=fun i=>(C i).cur.x:=⟨_,rfl⟩
 obtain ⟨YY,hYY⟩:∃YY:Nat→Int,YY=fun i=>(C i).cur.y:=⟨_,rfl⟩
 have hcl0:CL 0=[]:=by rw [hCL]; simp only [hC0]; rfl
 have hfi0:FI 0=[]:=by rw [hFI]; simp only [hC0]; rfl
 have hx0:XX 0=0:=by rw [hXX]; simp only [hC0]; rfl
 have hy0:YY 0=0:=by rw [hYY]; simp only [hC0]; rfl
 have ho0:OP 0=false:=by rw [hOP]; simp only [hC0]; rfl
 have hcr:∀i,roL (CL i):=fun i=>by rw [hCL]; exact hClr _
 have hfr:∀i,roL (FI i):=fun i=>by rw [hFI]; exact hFir _
 have hLl:∀i,i≤l.length→(CL i).length≤i∧(FI i).length=(CL i).length:=fun i hi=>by rw [hCL,hFI]; exact hCl i hi
 have hS1:∀i (h:i<l.length),l[i].k=1→CL (i+1)=CL i++[.bool false]∧FI (i+1)=FI i++[.agg [.int .i64 (l[i].v 0),.int .i64 (l[i].v 1)]]∧OP (i+1)=true∧XX (i+1)=l[i].v 0∧YY (i+1)=l[i].v 1:=fun i h k=>by
  obtain ⟨e1,e2⟩:=A7 (C:=C i) k
  have hb:=jD (c:=C i) k
  rw [←hCs i h] at e1 e2 hb
  rw [hCL,hFI,hOP,hXX,hYY]
  exact ⟨e1,e2,by simp only [hb],by simp only [hb],by simp only [hb]⟩
 have hS2:∀i (h:i<l.length),l[i].k≠1→l[i].k≠6→OP i=true→CL (i+1)=CL i∧FI (i+1)=FI i∧OP (i+1)=true∧XX (i+1)=XX i∧YY (i+1)=YY i:=fun i h k1 k6 ho=>by
  rw [hOP] at ho
  obtain ⟨e1,e2⟩:=yW k1 k6 ho
  have hb:=fF (c:=C i) k1 k6
  rw [←hCs i h] at e1 e2 hb
  rw [hCL,hFI,hOP,hXX,hYY]
  exact ⟨e1,e2,by simp only [hb],by simp only [hb],by simp only [hb]⟩
 have hS3:∀i (h:i<l.length),l[i].k≠1→l[i].k≠6→OP i=false→CL (i+1)=CL i++[.bool false]∧FI (i+1)=FI i++[.agg [.int .i64 (XX i),.int .i64 (YY i)]]∧OP (i+1)=true∧XX (i+1)=XX i∧YY (i+1)=YY i:=fun i h k1 k6 ho=>by
  rw [hOP] at ho
  obtain ⟨e1,e2⟩:=yV k1 k6 ho (hCi i (by omega)).2
  have hb:=fF (c:=C i) k1 k6
  rw [←hCs i h] at e1 e2 hb
  rw [hCL,hFI,hOP,hXX,hYY]
  exact ⟨e1,e2,by simp only [hb],by simp only [hb],by simp only [hb]⟩
 have hS4:∀i (h:i<l.length),l[i].k=6→OP i=true→(∃r b,CL i=r++[.bool b]∧CL (i+1)=r++[.bool true])∧FI (i+1)=FI i∧OP (i+1)=false∧XX (i+1)=XX i∧YY (i+1)=YY i:=fun i h k6 ho=>by
  rw [hOP] at ho
  obtain ⟨r,e0,e1,e2⟩:=vv k6 ho
  have hb:=eO (c:=C i) k6
  rw [←hCs i h] at e1 e2 hb
  rw [hCL,hFI,hOP,hXX,hYY]
  exact ⟨⟨r,_,e0,e1⟩,e2,by simp only [hb],by simp only [hb],by simp only [hb]⟩
 have hS5:∀i (h:i<l.length),l[i].k=6→OP i=false→CL (i+1)=CL i++[.bool true]∧FI (i+1)=FI i++[.agg [.int .i64 (XX i),.int .i64 (YY i)]]∧OP (i+1)=false∧XX (i+1)=XX i∧YY (i+1)=YY i:=fun i h k6 ho=>by
  rw [hOP] at ho
  obtain ⟨e1,e2⟩:=vu k6 ho
  have hb:=eO (c:=C i) k6
  rw [←hCs i h] at e1 e2 hb
  rw [hCL,hFI,hOP,hXX,hYY]
  exact ⟨e1,e2,by simp only [hb],by simp only [hb],by simp only [hb]⟩
 have hCLe:CL l.length=(aU l).map fun u => .bool u.closed:=by rw [hCL]; simp only [hCe]; rfl
 have hFIe:FI l.length=(aU l).map fun u => .agg [.int .i64 u.x,.int .i64 u.y]:=by rw [hFI]; simp only [hCe]; rfl
 clear hCs hCi hCl hClr hFir hCL hFI hOP hXX hYY hC0 hCe
 obtain ⟨PL,hPL⟩:∃PL,PL=(dM l cN 1).map jH:=⟨_,rfl⟩
 have hPr:roL PL:=by rw [hPL]; exact lf _
 rw [←hPL]
 have vrr:=fun rn=>renL_ro rn _ hsr
 have vrc:=cloL_ro (n:=5) _ hsr
 have prr:=fun rn=>renL_ro rn _ hPr
 have prc:=cloL_ro (n:=5) _ hPr
 refine aj 5 (α:={i:Nat // i≤l.length}) (fun i=>[(0,.sl 8 false V),(5,.sl 2 false PL),(7,b9 1 3 (CL i.1)),(8,b9 2 4 (FI i.1)),(9,.ptr 2 0 0),(10,.bool (OP i.1)),(11,.int .i64 i.1)])
  (fun i=>(2,.live 2 [.agg [.int .i64 (XX i.1),.int .i64 (YY i.1)]])::(dZ 1 3 (CL i.1)++dZ 2 4 (FI i.1))) (fun i=>l.length-i.1) ⟨0,Nat.zero_le _⟩ [] (by simp) (by simp [nm]) (by simp) (by simp -implicitDefEqProofs [go_sem,hcl0,hfi0,ho0,vrr,vrc,prr,prc]) (by simp -implicitDefEqProofs [go_sem,hcl0,hfi0,hx0,hy0]) fun ⟨i,hi⟩=>?_
 obtain ⟨hi3,hi4⟩:=hLl i hi
 simp only
 by_cases a:i<l.length
 ·have a1:(i:Int)<l.length:=by omega
  have es:=wS i (by omega)
  have gi:=hVg i a
  have hcs:=hcs i a
  have hc1:=hcr (i+1)
  have hf1:=hfr (i+1)
  have s1:=hS1 i a
  have s2:=hS2 i a
  have s3:=hS3 i a
  have s4:=hS4 i a
  have s5:=hS5 i a
  clear hS1 hS2 hS3 hS4 hS5
  have c1r:=fun rn=>renL_ro rn _ hc1
  have c1c:=cloL_ro (n:=5) _ hc1
  have f1r:=fun rn=>renL_ro rn _ hf1
  have f1c:=cloL_ro (n:=5) _ hf1
  generalize l[i]=x at *
  by_cases k1:x.k=1
  ·obtain ⟨e1,e2,e3,e4,e5⟩:=s1 k1
   simp -implicitDefEqProofs [go_sem,a1,a,hVl,gi,hcs,k1]
   refine az (by kernel_rfl) ?_
   simp -implicitDefEqProofs [go_sem,a1,a,hVl,gi,hcs,k1,DU]
   refine x_ rfl rfl rfl rfl rfl rfl rfl rfl rfl (by kernel_rfl) (by decide) K6 rfl OT (by decide) K7 rfl Fm (by decide) Fm rfl (V:=CL i) (W:=FI i) (cs:=[.int .i64 (x.v 0),.int .i64 (x.v 1)]) (p:=3) (q:=4) (b:=2) (s:=2) (x := .bool false)
    (by simp -implicitDefEqProofs [go_sem]) (by simp -implicitDefEqProofs [go_sem]) (by simp -implicitDefEqProofs [go_sem]) (by simp -implicitDefEqProofs [go_sem]) rfl rfl rfl (fun h=>by simp -implicitDefEqProofs [go_sem,aV,h]) (fun h=>by simp -implicitDefEqProofs [go_sem,aV,h]) (fun _ _=>by omega) (by omega) (fun _=>by omega) (by simp -implicitDefEqProofs [go_sem]<;>omega) (by simp -implicitDefEqProofs [go_sem]<;>omega) ?_
   simp -implicitDefEqProofs [go_sem,a1,a,hVl,gi,hcs,k1]
   rw [e1] at c1r c1c
   rw [e2] at f1r f1c
   exact ae ⟨i+1,a⟩ (by simp only; omega) [(3,21),(4,25)] (by simp) (by simp only [e1,e2,bh]; simp [nm]) (by simp) (by simp only [e1,e2,e3,e4,e5,dF]; simp -implicitDefEqProofs [go_sem,es,vrr,vrc,prr,prc]) (by simp only [e1,e2,e3,e4,e5,bh]; simp -implicitDefEqProofs [go_sem,aV,c1r,c1c,f1r,f1c])
  cases hop:OP i
  ·rw [hop] at s2 s3 s4 s5
   simp -implicitDefEqProofs [go_sem,a1,a,hVl,gi,hcs,k1,hop]
   refine x_ rfl rfl rfl rfl rfl rfl rfl rfl rfl (by kernel_rfl) (by decide) K6 rfl OT (by decide) K7 rfl Fm (by decide) Fm rfl (V:=CL i) (W:=FI i) (cs:=[.int .i64 (XX i),.int .i64 (YY i)]) (p:=3) (q:=4) (b:=2) (s:=2) (x := .bool false)
    (by simp -implicitDefEqProofs [go_sem]) (by simp -implicitDefEqProofs [go_sem]) (by simp -implicitDefEqProofs [go_sem]) (by simp -implicitDefEqProofs [go_sem]) rfl rfl rfl (fun h=>by simp -implicitDefEqProofs [go_sem,aV,h]) (fun h=>by simp -implicitDefEqProofs [go_sem,aV,h]) (fun _ _=>by omega) (by omega) (fun _=>by omega) (by simp -implicitDefEqProofs [go_sem]<;>omega) (by simp -implicitDefEqProofs [go_sem]<;>omega) ?_
   by_cases k6:x.k=6
   ·obtain ⟨e1,e2,e3,e4,e5⟩:=s5 k6 rfl
    have wn:IntKind.i64.wrap ((CL i).length:Int)=(CL i).length:=by rw [bO (by omega)]
    have hset:(CL i++[AV.bool false]).set (CL i).length (.bool true)=CL i++[.bool true]:=by simp
    simp -implicitDefEqProofs [go_sem,a1,a,hVl,gi,hcs,k1,k6,wn,hset]
    refine ⟨by omega,?_⟩
    rw [e1] at c1r c1c
    rw [e2] at f1r f1c
    exact ae ⟨i+1,a⟩ (by simp only; omega) [(3,7),(4,11)] (by simp) (by simp only [e1,e2,bh]; simp [nm]) (by simp) (by simp only [e1,e2,e3,e4,e5,dF]; simp -implicitDefEqProofs [go_sem,es,vrr,vrc,prr,prc]) (by simp only [e1,e2,e3,e4,e5,bh]; simp -implicitDefEqProofs [go_sem,aV,c1r,c1c,f1r,f1c])
   ·obtain ⟨e1,e2,e3,e4,e5⟩:=s3 k1 k6 rfl
    simp -implicitDefEqProofs [go_sem,a1,a,hVl,gi,hcs,k1,k6]
    rw [e1] at c1r c1c
    rw [e2] at f1r f1c
    exact ae ⟨i+1,a⟩ (by simp only; omega) [(3,7),(4,11)] (by simp) (by simp only [e1,e2,bh]; simp [nm]) (by simp) (by simp only [e1,e2,e3,e4,e5,dF]; simp -implicitDefEqProofs [go_sem,es,vrr,vrc,prr,prc]) (by simp only [e1,e2,e3,e4,e5,bh]; simp -implicitDefEqProofs [go_sem,aV,c1r,c1c,f1r,f1c])
  ·rw [hop] at s2 s3 s4 s5
   simp -implicitDefEqProofs [go_sem,a1,a,hVl,gi,hcs,k1,hop]
   by_cases k6:x.k=6
   ·obtain ⟨⟨r,b,e0,e1⟩,e2,e3,e4,e5⟩:=s4 k6 rfl
    rw [e0] at hi3 hi4 ⊢
    have wn:IntKind.i64.wrap (r.length:Int)=r.length:=by rw [bO (by simp at hi3; omega)]
    have hset:(r++[AV.bool b]).set r.length (.bool true)=r++[.bool true]:=by simp
    simp -implicitDefEqProofs [go_sem,a1,a,hVl,gi,hcs,k1,k6,wn,hset,aV]
    refine ⟨by omega,?_⟩
    rw [e1] at c1r c1c
    rw [e2] at f1r f1c
    exact ae ⟨i+1,a⟩ (by simp only; omega) [] (by simp) (by simp only [e1,e2,bh]; simp [nm]) (by simp) (by simp only [e1,e2,e3,e4,e5,dF]; simp -implicitDefEqProofs [go_sem,es,vrr,vrc,prr,prc]) (by simp only [e1,e2,e3,e4,e5,bh]; simp -implicitDefEqProofs [go_sem,aV,c1r,c1c,f1r,f1c,or_imp,forall_and])
   ·obtain ⟨e1,e2,e3,e4,e5⟩:=s2 k1 k6 rfl
    simp -implicitDefEqProofs [go_sem,a1,a,hVl,gi,hcs,k1,k6]
    rw [e1] at c1r c1c
    rw [e2] at f1r f1c
    exact ae ⟨i+1,a⟩ (by simp only; omega) [] (by simp) (by simp [nm]) (by simp) (by simp only [e1,e2,e3,e4,e5]; simp -implicitDefEqProofs [go_sem,es,vrr,vrc,prr,prc]) (by simp only [e1,e2,e3,e4,e5]; simp -implicitDefEqProofs [go_sem,aV,c1r,c1c,f1r,f1c,or_imp,forall_and])
 have a1:¬(i:Int)<l.length:=by omega
 have hii:i=l.length:=by omega
 have hPl:PL.length=(aU l).length:=by rw [hPL]; simp [dM]
 have hCn:(CL i).length=(aU l).length:=by rw [hii,hCLe]; simp
 have ecl:((PL.length:Int)=(CL i).length):=by rw [hPl,hCn]
 simp -implicitDefEqProofs [go_sem,a1,hVl,ecl]
 have hnear:=AJ hG.2.2.2.1
 have hPg:∀j (h:j<(aU l).length),∃r,bk PL (j:Int) = .agg [.sl 6 false (.agg (pC (au (aU l)[j].x (aU l)[j].y))::r),.bool (aU l)[j].closed]∧(au (aU l)[j].x (aU l)[j].y).sz≤102∧r.length≤196700:=fun j h=>by
  obtain ⟨r,hr⟩:=vF (cN.app (aU l)[j].f) (bV cN 1 (aU l)[j].f (aU l)[j].l) (aU l)[j].closed
  rw [nC] at hr
  have e:ly cN 1 (aU l)[j]=(au (aU l)[j].x (aU l)[j].y::r,(aU l)[j].closed):=by
   unfold ly dE
   rw [nC,hr]; rfl
  have hm:ly cN 1 (aU l)[j]∈dM l cN 1:=List.mem_map.2 ⟨_,List.getElem_mem h,rfl⟩
  have h2:=f2 _ hm
  rw [e] at h2
  refine ⟨r.map pA,?_,h2.2 _ (List.mem_cons_self),by have:=h2.1; simp at this ⊢; omega⟩
  have hg:bk PL (j:Int)=jH (ly cN 1 (aU l)[j]):=by
   rw [hPL]; unfold dM
   rw [List.map_map]
   exact nw h
  rw [hg,e]
  rfl
 have hCg:∀j (h:j<(CL i).length) (h':j<(aU l).length),(CL i)[j] = .bool (aU l)[j].closed:=fun j h h'=>by
  have:CL i=(aU l).map fun u => .bool u.closed:=by rw [hii,hCLe]
  simp only [this,List.getElem_map]
 have hFg:∀j (h:j<(FI i).length) (h':j<(aU l).length),(FI i)[j] = .agg [.int .i64 (aU l)[j].x,.int .i64 (aU l)[j].y]:=fun j h h'=>by
  have:FI i=(aU l).map fun u => .agg [.int .i64 u.x,.int .i64 u.y]:=by rw [hii,hFIe]
  simp only [this,List.getElem_map]
 have hFn:(FI i).length=(aU l).length:=by rw [hi4,hCn]
 have hcri:=hcr i
 have hfri:=hfr i
 clear hS1 hS2 hS3 hS4 hS5 hcl0 hfi0 hx0 hy0 ho0 hcr hfr hLl hCLe hFIe hPL
 have hN:(aU l).length≤100:=by omega
 generalize aU l=S at *
 generalize CL i=CW at *
 generalize FI i=FW at *
 have c1r:=fun rn=>renL_ro rn _ hcri
 have c1c:=cloL_ro (n:=5) _ hcri
 have f1r:=fun rn=>renL_ro rn _ hfri
 have f1c:=cloL_ro (n:=5) _ hfri
 refine aj 5 (α:={j:Nat // j≤S.length}) (fun j=>[(5,.sl 2 false PL),(7,b9 1 3 CW),(8,b9 2 4 FW),(12,.int .i64 j.1)]) (fun j=>dZ 1 3 CW++dZ 2 4 FW) (fun j=>S.length-j.1) ⟨0,Nat.zero_le _⟩ [] (by simp) (by simp [nm]) (by simp) (by simp -implicitDefEqProofs [go_sem,prr,prc]) (by simp -implicitDefEqProofs [go_sem,aV,c1r,c1c,f1r,f1c,or_imp,forall_and]) fun ⟨j,hj⟩=>?_
 simp only
 by_cases a:j<S.length
 ·obtain ⟨r,gP,z1,z2⟩:=hPg j a
  have b0:j<CW.length:=by omega
  have b1:j<FW.length:=by omega
  have gC:=hCg j b0 a
  have gF:=hFg j b1 a
  have hn:=hnear _ (List.getElem_mem a)
  have hCne:CW≠[]:=fun h=>by rw [h] at b0; simp at b0
  have hFne:FW≠[]:=fun h=>by rw [h] at b1; simp at b1
  have k1:=eW S[j].x 64 (by have:=hn.x; omega) (by omega) (by omega)
  have k2:=eW S[j].y 64 (by have:=hn.y; omega) (by omega) (by omega)
  have k3:=iz (au S[j].x S[j].y) (by omega)
  rw [show ((64:Int):Rat)=64 from rfl] at k1 k2
  rw [cE,show pC (au S[j].x S[j].y)=rC ((S[j].x:Rat) / 64)++rC ((S[j].y:Rat) / 64) from rfl] at k3
  rw [show pC (au S[j].x S[j].y)=rC ((S[j].x:Rat) / 64)++rC ((S[j].y:Rat) / 64) from rfl] at gP
  simp only [eV] at k1 k2
  have es:=wS j (by omega)
  have a1:(j:Int)<S.length:=by omega
  have a2:(j:Int)<CW.length:=by omega
  have a3:(j:Int)<FW.length:=by omega
  have a4:¬((r.length:Int)+1<1):=by omega
  have lrl:(rC ((S[j].x:Rat) / 64)++rC ((S[j].y:Rat) / 64)).length=6:=rfl
  have lrt:(rC ((S[j].x:Rat) / 64)++rC ((S[j].y:Rat) / 64)).take 6=rC ((S[j].x:Rat) / 64)++rC ((S[j].y:Rat) / 64):=rfl
  generalize S[j].x=x at *
  generalize S[j].y=y at *
  generalize S[j].closed=c at *
  simp only [aN hCne,aN hFne,aJ hCne,aJ hFne] at *
  simp -implicitDefEqProofs [go_sem,a,a1,a2,a3,hPl]
  refine az (by kernel_rfl) ?_
  simp -implicitDefEqProofs [go_sem,a,a1,a2,a3,a4,hPl,gP,b0,b1,gC,gF]
  refine aa k1 ?_
  simp -implicitDefEqProofs [go_sem,a,a1,a2,a3,a4,hPl,gP,b0,b1,gC,gF]
  refine aa k2 ?_
  simp -implicitDefEqProofs [go_sem,a,a1,a2,a3,a4,hPl,gP,b0,b1,gC,gF,lrl,lrt]
  refine aC _ k3 (by simp [go_sem,aB]) ?_
  simp -implicitDefEqProofs [go_sem,es]
  exact ae ⟨j+1,a⟩ (by simp only; omega) [] (by simp) (by simp [nm]) (by simp) (by simp -implicitDefEqProofs [go_sem,es,prr,prc]) (by simp -implicitDefEqProofs [go_sem,c1r,c1c,f1r,f1c])
 ·have a1:¬(j:Int)<S.length:=by omega
  simp -implicitDefEqProofs [go_sem,a1,hPl]
  refine ag kw ?_
  simp -implicitDefEqProofs [go_sem]
  exact Wk.refl _
end Go.Proofs.YtdnmfaljidjijaaGreat
