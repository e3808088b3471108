import Derived.Test.YtdnmfaljidjijaaGreatPk03
namespace Go.Proofs.YtdnmfaljidjijaaGreat
set_option maxHeartbeats 32000000
open Go Go.Proofs
set_option linter.unusedSimpArgs false
set_option linter.unusedVariables false
set_option maxRecDepth 20000
@[go_sem] theorem RH (x y:Rat):rC x++(rC y++List.drop 6 (rC x++[AV.bool false,AV.sl 0 true [],AV.sl 0 true []]))=pC ⟨x,y⟩:=rfl
def tQ (m i:Nat):Rat:=((i:Int):Rat) / ((m:Int):Rat)
def kQ (m i:Nat):Rat:=1 / (1+tQ m i*tQ m i)
def uP (m i:Nat):PQ:=(⟨1-tQ m i*tQ m i,tQ m i+tQ m i⟩:PQ).scale (kQ m i)
def uL (m n:Nat):List PQ:=(List.range n).map (uP m)
theorem jA (m n:Nat):(uL m n).length=n:=by simp [uL]
theorem rM (m n:Nat):uL m (n+1)=uL m n++[uP m n]:=by simp [uL,List.range_succ]
theorem qa (m i:Nat):1+tQ m i*tQ m i≠0:=by
 have h:0≤tQ m i*tQ m i:=by
  rcases (Rat.le_total:0≤tQ m i∨tQ m i≤0) with h|h
  ·exact Rat.mul_nonneg h h
  ·have:=Rat.mul_nonneg (show 0 ≤ -tQ m i by grind) (show 0 ≤ -tQ m i by grind)
   grind
 grind
theorem IM {m i:Nat} (hm:1≤m) (hm2:m≤4096) (hi:i≤m):sz (tQ m i)≤1:=gD (by omega) (by omega) (by omega)
theorem Ba {m i:Nat} (hm:1≤m) (hm2:m≤4096) (hi:i≤m):(uP m i).sz≤16:=by
 have h1:=IM hm hm2 hi
 have h2:=aJ (tQ m i) (tQ m i)
 have h3:=sz_add 1 (tQ m i*tQ m i)
 have h4:=sz_sub 1 (tQ m i*tQ m i)
 have h5:=sz_add (tQ m i) (tQ m i)
 have h6:=iS 1 (1+tQ m i*tQ m i)
 rw [eH] at h3 h4 h6
 have h7:=PQ.sz_scale (⟨1-tQ m i*tQ m i,tQ m i+tQ m i⟩:PQ) (kQ m i)
 have h8:(⟨1-tQ m i*tQ m i,tQ m i+tQ m i⟩:PQ).sz≤4:=by unfold PQ.sz; simp only; omega
 have h9:sz (kQ m i)≤5:=by unfold kQ; omega
 unfold uP
 omega
def sg (m:Nat):Nat→List AV
 | 0=>[.agg [.int .u32 0,.int .i32 0,.int .u32 0,.int .i64 m,.sl 0 true []]]
 | _+1=>[.agg [.int .u32 1,.int .i32 0,.int .u32 0,.int .i64 m,.sl 6 false ((uL m m).map pA)]]
theorem EG (m:Nat) (hm:1≤m) (hm2:m≤4096) (j:Nat) {K:AV→(Nat→BS)→Nat→Prop} (hK:∀f' n',f' 0=de 5 [.int .u32 0,.int .i64 m,.sl 6 false ((uL m m).map pA)]→1≤n'→K (.tup []) f' n') :
 CA Tryz.prog 205 [.ptr 0 0 0,.fn (.func 310) [.ptr 0 0 0] []] (ut 5 (sg m j)) 1 K:=by
 cases j with
 | succ j=>exact Ia (sz:=5) (rest:=[.int .u32 0,.int .i64 m,.sl 6 false ((uL m m).map pA)]) rfl (hK _ _ rfl (Nat.le_refl _))
 | zero =>
  refine CA.freeze (Cy (sz:=5) (rest:=[.int .u32 0,.int .i64 m,.sl 0 true []]) rfl ?_)
  refine Cg Tryz.func310 rfl [] rfl ?_
  have h1:=bM 1 1 (by omega) (by omega) (by omega)
  rw [show ((1:Int):Rat) / ((1:Int):Rat)=1 by grind,bA] at h1
  simp -implicitDefEqProofs [go_sem,sg,cK,de]
  refine ac h1 ?_
  simp -implicitDefEqProofs [go_sem]
  obtain ⟨V,hV⟩:∃V:Nat→List AV,V=fun i=>(uL m i).map pA:=⟨_,rfl⟩
  have hVl:∀i,(V i).length=i:=fun i=>by rw [hV]; simp [jA]
  have hVr:∀i,roL (V i):=fun i=>by rw [hV]; exact bK _
  have hV0:V 0=[]:=by rw [hV]; rfl
  have hVs:∀i,V (i+1)=V i++[.agg (pC (uP m i))]:=fun i=>by rw [hV]; simp only [rM,List.map_append,List.map_singleton,aQ]
  refine ap 3 (α:={i:Nat // i≤m}) (fun i=>[(0,.ptr 0 0 0),(2,.ptr 1 0 0),(12,.int .i64 m),(13,.int .i64 i.1)])
   (fun i=>[(0,.live 5 [.agg [.int .u32 0,.int .i32 1,.int .u32 0,.int .i64 m,di 6 2 (V i.1)]]),(1,.live 3 [.agg (rC 1)])]++cR 6 2 (V i.1)) (fun i=>m-i.1) ⟨0,Nat.zero_le _⟩ [] (by simp) (fun _ _ _ _ h=>h) (by omega) (by simp -implicitDefEqProofs [go_sem]) (by simp -implicitDefEqProofs [go_sem,hV0]) fun ⟨i,hi⟩=>?_
  simp only
  have hb:V i≠[]→hp 3 (cR 6 2 (V i)) 2 = .live 6 (V i):=fun h=>by rw [aC h]; simp [hp,aH]
  simp -implicitDefEqProofs [go_sem]
  refine ⟨fun h=>?_,fun h=>?_⟩
  ·have es:=wS i (by omega)
   have r1:=bM (i:Int) (m:Int) (by omega) (by omega) (by omega)
   rw [show ((i:Int):Rat) / ((m:Int):Rat)=tQ m i from rfl] at r1
   have z1:=IM hm hm2 hi
   have z2:=aJ (tQ m i) (tQ m i)
   have z3:=sz_add 1 (tQ m i*tQ m i)
   have z4:=sz_sub 1 (tQ m i*tQ m i)
   have z5:=sz_add (tQ m i) (tQ m i)
   have z6:=iS 1 (1+tQ m i*tQ m i)
   rw [eH] at z3 z4 z6
   have r2:=li (tQ m i) (tQ m i) (by omega) (by omega)
   have r3:=Il 1 (tQ m i*tQ m i) (by rw [eH]; omega) (by omega)
   have r4:=AF 1 (1+tQ m i*tQ m i) (by rw [eH]; omega) (by omega) (qa m i)
   have r5:=K2 1 (tQ m i*tQ m i) (by rw [eH]; omega) (by omega)
   have r6:=Il (tQ m i) (tQ m i) (by omega) (by omega)
   have r7:=xX ⟨1-tQ m i*tQ m i,tQ m i+tQ m i⟩ (kQ m i) (by unfold PQ.sz; simp only; omega) (by unfold kQ; omega)
   rw [show (1:Rat) / (1+tQ m i*tQ m i)=kQ m i from rfl] at r4
   rw [show (⟨1-tQ m i*tQ m i,tQ m i+tQ m i⟩:PQ).scale (kQ m i)=uP m i from rfl] at r7
   have hs:=hVs i
   have hl:=hVl i
   have hr1:=hVr (i+1)
   rw [hs] at hr1
   generalize uP m i=up at *
   generalize kQ m i=kq at *
   simp only [aQ,bA] at r1 r2 r3 r4 r5 r6 r7
   generalize tQ m i*tQ m i=s at *
   generalize tQ m i+tQ m i=tt at *
   generalize tQ m i=t at *
   refine ac r1 ?_
   simp -implicitDefEqProofs [go_sem]
   refine ac r2 ?_
   simp -implicitDefEqProofs [go_sem]
   refine aa r3 ?_
   simp -implicitDefEqProofs [go_sem]
   refine aa r4 ?_
   simp -implicitDefEqProofs [go_sem]
   refine aa r5 ?_
   simp -implicitDefEqProofs [go_sem]
   refine aa r6 ?_
   simp -implicitDefEqProofs [go_sem]
   refine aa r7 ?_
   simp -implicitDefEqProofs [go_sem]
   refine aI (.inl rfl) (by omega) (by omega) (by simp -implicitDefEqProofs [go_sem]) (by simp [hl]<;>omega) (by simp -implicitDefEqProofs [go_sem]; intro h; rw [if_neg h]; rfl) ?_
   simp -implicitDefEqProofs [go_sem,es]
   have hn1:V (i+1)≠[]:=by rw [hs]; simp
   have q1:=(renL_ro (nm [(2,31)]) _ hr1).symm
   have q2:=cloL_ro (n:=3) _ hr1
   have hl1:(V (i+1)).length=(V i).length+1:=by rw [hs]; simp
   refine ae ⟨i+1,h⟩ (by simp only; omega) [(2,31)] (by simp) (by simp only [aC hn1]; simp [nm]) (by simp) (by simp -implicitDefEqProofs [go_sem,es]) (by simp only [aC hn1,aV hn1,hl1,hs]; simp -implicitDefEqProofs [go_sem,←q1,q2])
  ·have him:i=m:=by omega
   subst him
   have hne:V i≠[]:=by intro h; have:=hVl i; rw [h] at this; simp at this; omega
   have hap:=aV (sz:=6) (id:=2) hne
   have hl:=hVl i
   have ht:(V i).take i=V i:=List.take_of_length_le (by omega)
   refine ⟨2,6,V i,by simp -implicitDefEqProofs [go_sem,hne],hK _ _ ?_ (by omega)⟩
   simp -implicitDefEqProofs [go_sem,hap,de,hl,ht]
   rw [hV]
def PQ.rot (p:PQ):PQ:=⟨-p.y,p.x⟩
def bN:Nat→PQ→PQ
 | 0,p=>p
 | j+1,p=>(bN j p).rot
theorem PQ.sz_rot (p:PQ):p.rot.sz≤p.sz:=by
 have:=p.sz_x; have:=p.sz_y; have:=sz_neg p.y
 unfold PQ.rot
 conv=>lhs; unfold PQ.sz
 simp only
 omega
theorem pm (j:Nat) (p:PQ):(bN j p).sz≤p.sz:=by
 induction j with
 | zero=>exact Nat.le_refl _
 | succ j ih=>exact Nat.le_trans (PQ.sz_rot _) ih
theorem AD (m:Nat) (hm:1≤m) (hm2:m≤4096) (j j':Nat) (hj:j≤3) :
 IZ Tryz.prog 279 [.ptr 0 0 0,.int .i64 j] 5 (sg m j') fun r l'=>r=pL ((uL m m).map (bN j))∧l'=sg m (j'+1):=by
 refine CA.freeze (Cg Tryz.func279 rfl [.tmp 4] rfl ?_)
 obtain ⟨B,hB⟩:∃B,B=sg m j':=⟨_,rfl⟩
 have hcd := @EG m hm hm2 j'
 have hc1:sg m (j'+1)=[.agg [.int .u32 1,.int .i32 0,.int .u32 0,.int .i64 m,.sl 6 false ((uL m m).map pA)]]:=rfl
 rw [hc1]
 rw [←hB] at hcd ⊢
 simp -implicitDefEqProofs [go_sem]
 refine hcd fun f' n' hf hn=>?_
 unfold de at hf
 simp -implicitDefEqProofs [go_sem,hf]
 obtain ⟨U,hU⟩:∃U,U=(uL m m).map pA:=⟨_,rfl⟩
 have hUr:roL U:=by rw [hU]; exact bK _
 have hUl:U.length=m:=by rw [hU]; simp [jA]
 have hUi:∀i,i<m→bU U (i:Int) = .agg (pC (uP m i)):=fun i h=>by
  rw [hU,eV (by rw [jA]; exact h)]
  congr 2
  simp [uL]
 obtain ⟨O,hO⟩:∃O:Nat→List AV,O=fun i=>((uL m i).map (bN j)).map pA:=⟨_,rfl⟩
 have hOr:∀i,roL (O i):=fun i=>by rw [hO]; exact bK _
 have hOl:∀i,(O i).length=i:=fun i=>by rw [hO]; simp [jA]
 have hO0:O 0=[]:=by rw [hO]; rfl
 have hOs:∀i,O (i+1)=O i++[.agg (pC (bN j (uP m i)))]:=fun i=>by rw [hO]; simp only [rM,List.map_append,List.map_singleton,aQ]
 have hOm:pL ((uL m m).map (bN j)) = .sl 6 false (O m):=by rw [hO]; rfl
 rw [←hU] at hf ⊢
 rw [hOm,jA]
 refine ap 2 (α:={i:Nat // i≤m}) (fun i=>[(1,.int .i64 j),(5,di 6 1 (O i.1)),(17,.sl 6 false U),(18,.int .i64 m),(19,.int .i64 i.1)])
  (fun i=>(0,.live 5 [.agg [.int .u32 1,.int .i32 0,.int .u32 0,.int .i64 m,.sl 6 false U]])::cR 6 1 (O i.1)) (fun i=>m-i.1) ⟨0,Nat.zero_le _⟩ [] (by simp) (by simp only [hO0,wK]; simp [nm]) (by omega) (by simp -implicitDefEqProofs [go_sem,hO0]; exact ⟨(renL_ro _ _ hUr).symm,cloL_ro _ hUr⟩) (by simp -implicitDefEqProofs [go_sem,hO0,hf]; exact ⟨(renL_ro _ _ hUr).symm,cloL_ro _ hUr⟩) fun ⟨i,hi⟩=>?_
 simp only
 have hb:O i≠[]→hp 2 (cR 6 1 (O i)) 1 = .live 6 (O i):=fun h=>by rw [aC h]; simp [hp,aH]
 have hl:=hOl i
 simp -implicitDefEqProofs [go_sem]
 refine ⟨fun h=>?_,fun h=>?_⟩
 ·have es:=wS i (by omega)
  have hg:=hUi i h
  have hs:=hOs i
  have hr1:=hOr (i+1)
  have hsu:=Ba hm hm2 hi
  have hr0:=hOr i
  simp -implicitDefEqProofs [go_sem,hg]
  have q1:=(renL_ro (nm []) _ hr0).symm
  have q2:=cloL_ro (n:=3) _ hr0
  have q3:=(renL_ro (nm []) _ hUr).symm
  have q4:=cloL_ro (n:=3) _ hUr
  refine ⟨by omega,ap 3 (α:={r:Nat // r≤j}) (fun r=>[(1,.int .i64 j),(5,di 6 1 (O i)),(7,.ptr 2 0 0),(17,.sl 6 false U),(18,.int .i64 m),(19,.int .i64 i),(23,.int .i64 j),(24,.int .i64 r.1)])
   (fun r=>(0,.live 5 [.agg [.int .u32 1,.int .i32 0,.int .u32 0,.int .i64 m,.sl 6 false U]])::(2,.live 6 [.agg (pC (bN r.1 (uP m i)))])::cR 6 1 (O i)) (fun r=>j-r.1) ⟨0,Nat.zero_le _⟩ [] (by simp) (fun _ _ _ _ h=>h) (by omega) (by simp -implicitDefEqProofs [go_sem]; exact ⟨q3,q4⟩) (by simp -implicitDefEqProofs [go_sem,bN]; exact ⟨⟨q3,q4⟩,fun h=>⟨by rw [if_neg h,←q1],q2⟩⟩) fun ⟨r,hr⟩=>?_⟩
  simp only
  have hb2:O i≠[]→hp 3 (cR 6 1 (O i)) 1 = .live 6 (O i):=fun h=>by rw [aC h]; simp [hp,aH]
  have e1:=wS r (by omega)
  simp -implicitDefEqProofs [go_sem]
  refine ⟨fun h2=>?_,fun h2=>?_⟩
  ·have hsr:=pm r (uP m i)
   have hsy:=(bN r (uP m i)).sz_y
   have hng:=K0 (bN r (uP m i)).y (by omega)
   have hrr:pC (bN (r+1) (uP m i))=pC ⟨-(bN r (uP m i)).y,(bN r (uP m i)).x⟩:=rfl
   generalize bN r (uP m i)=p at *
   simp only [bA] at hng
   refine aa hng ?_
   simp -implicitDefEqProofs [go_sem,e1]
   refine ae ⟨r+1,by omega⟩ (by simp only; omega) [] (by simp) (fun _ _ _ _ h=>h) (by simp) (by simp -implicitDefEqProofs [go_sem,e1]; exact ⟨q3,q4⟩) (by simp -implicitDefEqProofs [go_sem,hrr]; exact ⟨⟨q3,q4⟩,fun h=>⟨by rw [if_neg h,←q1]; rfl,q2⟩⟩)
  ·have hrj:r=j:=by omega
   subst hrj
   generalize bN r (uP m i)=p at *
   simp -implicitDefEqProofs [go_sem]
   refine aI (.inl rfl) (by omega) (by omega) (by simp -implicitDefEqProofs [go_sem]) (by simp [hl]<;>omega) (by simp -implicitDefEqProofs [go_sem]<;>(intro h; rw [if_neg h])) ?_
   simp -implicitDefEqProofs [go_sem,es]
   have hn1:O (i+1)≠[]:=by rw [hs]; simp
   rw [hs] at hr1
   have u1:=(renL_ro (nm [(1,4)]) _ hr1).symm
   have u2:=cloL_ro (n:=2) _ hr1
   have u3:=(renL_ro (nm [(1,4)]) _ hUr).symm
   have u4:=cloL_ro (n:=2) _ hUr
   have hl1:(O (i+1)).length=(O i).length+1:=by rw [hs]; simp
   refine ae ⟨i+1,h⟩ (by simp only; omega) [(1,4)] (by simp) (by simp only [aC hn1]; simp [nm]) (by simp) (by simp only [aV hn1,hl1]; simp -implicitDefEqProofs [go_sem,es]; exact ⟨u3,u4⟩) (by simp only [aC hn1,hs]; simp -implicitDefEqProofs [go_sem,←u1,u2,←u3,u4])
 ·have him:i=m:=by omega
  subst him
  have hne:O i≠[]:=by intro h; rw [h] at hl; simp at hl; omega
  have hap:=aV (sz:=6) (id:=1) hne
  have ht:(O i).take i=O i:=List.take_of_length_le (by omega)
  rw [hap,hl]
  refine ⟨1,6,O i,by simp -implicitDefEqProofs [go_sem,hne],_,⟨by simp -implicitDefEqProofs [go_sem,hl,ht],rfl⟩,?_,.inl ?_,?_⟩
  ·simp -implicitDefEqProofs [go_sem,hUr]
  ·simp -implicitDefEqProofs [go_sem,hl,ht,hOr]
  ·simp -implicitDefEqProofs [go_sem,frnL_ro]
def dP (c:PQ) (h:Rat) (q:Nat) (p:PQ):PQ:=c.add ((bN q p).scale h)
def dQ (c:PQ) (h:Rat) (m q:Nat):List PQ:=(uL m m).map (dP c h q)
def dL (c:PQ) (h:Rat) (m:Nat):Nat→List PQ
 | 0=>[]
 | q+1=>dL c h m q++dQ c h m q
theorem da (c:PQ) (h:Rat) (m q:Nat):(dL c h m q).length=q*m:=by
 induction q with
 | zero=>simp [dL]
 | succ q ih=>simp only [dL,List.length_append,ih,dQ,List.length_map,jA,Nat.succ_mul]
theorem Kb (m j:Nat):roL (sg m j):=by
 cases j with
 | zero=>unfold sg; simp -implicitDefEqProofs [go_sem]
 | succ j=>unfold sg; simp -implicitDefEqProofs [go_sem]
theorem xb (c:PR) (h:RQ) (m:Nat) (hc:c.In 1048576) (hh:h.In 1048576) (h0:0<h.val) (hm:1≤m) (hm2:m≤4096) :
 ag Tryz.prog 235 [c.av,h.av,.int .i64 m] (.tup [pL (dL c.val h.val m 4),.int .i64 0]):=by
 have hs:=bI h hh.sm.ok
 have h1':¬aM h.val≤0:=by
  have:0<aM h.val:=by rw [bQ]; exact h0
  omega
 obtain ⟨cc,hcc,c1,c2,c3,c4⟩:∃cc,c.av = .agg cc∧cc.length=6∧cc.take 6=cc∧cc.drop 6=[]∧roL cc:=⟨_,rfl,rfl,rfl,rfl,by have:=ju c; unfold PR.av at this; simpa only [ro] using this⟩
 obtain ⟨ch,hch,d1,d2,d3,d4⟩:∃ch,h.av = .agg ch∧ch.length=3∧ch.take 3=ch∧ch.drop 3=[]∧roL ch:=⟨_,rfl,rfl,rfl,rfl,gy h⟩
 rw [hch] at hs
 rw [hcc,hch]
 refine ag.of_ca (by simp only [ro,roL]; exact ⟨iV _,trivial,trivial⟩) (Cg Tryz.func235 rfl [.tmp 6,.tmp 7] rfl ?_)
 have n1:¬(m:Int)<1:=by omega
 have n2:¬4096<(m:Int):=by omega
 simp -implicitDefEqProofs [go_sem,c1,c2,d1,d2]
 refine ah _ hs (by simp [go_sem,d4]) ?_
 simp -implicitDefEqProofs [go_sem,h1',n1,n2,hm2]
 have hcirc:=Kb m
 have hq:=fun j (hj:j≤3)=>AD m hm hm2 j j hj
 have hc0:BS.live 5 [.agg [.int .u32 0,.int .i32 0,.int .u32 0,.int .i64 m,.sl 0 true []]]=BS.live 5 (sg m 0):=rfl
 rw [hc0]
 generalize sg m=C at *
 obtain ⟨O,hO⟩:∃O:Nat→Nat→List AV,O=fun j i=>(dL c.val h.val m j++(uL m i).map (dP c.val h.val j)).map pA:=⟨_,rfl⟩
 have hOr:∀j i,roL (O j i):=fun j i=>by rw [hO]; exact bK _
 have hOl:∀j i,(O j i).length=j*m+i:=fun j i=>by rw [hO]; simp [jA,da]
 have hO0:O 0 0=[]:=by rw [hO]; rfl
 have hOs:∀j i,O j (i+1)=O j i++[.agg (pC (dP c.val h.val j (uP m i)))]:=fun j i=>by rw [hO]; simp only [rM,List.map_append,List.map_singleton,aQ,List.append_assoc]
 have hOm:∀j,O j m=O (j+1) 0:=fun j=>by rw [hO]; simp [dL,dQ,uL]
 have hO4:pL (dL c.val h.val m 4) = .sl 6 false (O 4 0):=by rw [hO]; simp [pL,uL]
 rw [hO4]
 have a1:=(renL_ro (nm []) _ c4).symm
 have a2:=cloL_ro (n:=4) _ c4
 have a3:=(renL_ro (nm []) _ d4).symm
 have a4:=cloL_ro (n:=4) _ d4
 have a5:=fun j=>(renL_ro (nm []) _ (hcirc j)).symm
 have a6:=fun j=>cloL_ro (n:=4) _ (hcirc j)
 refine ap 4 (α:={j:Nat // j≤4}) (fun j=>[(2,.int .i64 m),(3,.ptr 0 0 0),(4,.ptr 1 0 0),(8,.ptr 2 0 0),(9,di 6 3 (O j.1 0)),(27,.int .i64 j.1)])
  (fun j=>(0,.live 6 [.agg cc])::(1,.live 3 [.agg ch])::(2,.live 5 (C j.1))::cR 6 3 (O j.1 0)) (fun j=>4-j.1) ⟨0,Nat.zero_le _⟩ [] (by simp) (by simp only [hO0,wK]; simp [nm]) (by omega) (by simp -implicitDefEqProofs [go_sem,hO0]) (by simp -implicitDefEqProofs [go_sem,hO0]; exact ⟨⟨a1,a2⟩,⟨a3,a4⟩,a5 0,a6 0⟩) fun ⟨j,hj⟩=>?_
 simp only
 have hb:O j 0≠[]→hp 4 (cR 6 3 (O j 0)) 3 = .live 6 (O j 0):=fun h=>by rw [aC h]; simp [hp,aH]
 simp -implicitDefEqProofs [go_sem]
 refine ⟨fun h4=>?_,fun h4=>?_⟩
 ·have ej:=wS j (by omega)
  refine mB 2 (hq j (by omega)) (by simp -implicitDefEqProofs [go_sem]) (by simp -implicitDefEqProofs [go_sem]) (hcirc j) (by simp -implicitDefEqProofs [go_sem]) fun r0 l' ⟨hr0,hl'⟩=>?_
  subst hr0 hl'
  unfold pL
  obtain ⟨W,hW⟩:∃W,W=(List.map (bN j) (uL m m)).map pA:=⟨_,rfl⟩
  have hWr:roL W:=by rw [hW]; exact bK _
  have hWl:W.length=m:=by rw [hW]; simp [jA]
  have hWi:∀i,i<m→bU W (i:Int) = .agg (pC (bN j (uP m i))):=fun i h=>by
   rw [hW,eV (by rw [List.length_map,jA]; exact h)]
   congr 2
   simp [uL]
  rw [←hW]
  have hWn:renL (fun _=>2) W=W:=renL_ro _ _ hWr
  simp -implicitDefEqProofs [go_sem,hWl,hWn]
  have w1:=(renL_ro (nm []) _ hWr).symm
  have w2:=cloL_ro (n:=4) _ hWr
  have o1:=(renL_ro (nm []) _ (hOr j 0)).symm
  have o2:=cloL_ro (n:=4) _ (hOr j 0)
  refine ap 4 (α:={i:Nat // i≤m}) (fun i=>[(2,.int .i64 m),(3,.ptr 0 0 0),(4,.ptr 1 0 0),(8,.ptr 2 0 0),(9,di 6 3 (O j i.1)),(27,.int .i64 j),(32,.sl 6 false W),(33,.int .i64 m),(34,.int .i64 i.1)])
   (fun i=>(0,.live 6 [.agg cc])::(1,.live 3 [.agg ch])::(2,.live 5 (C (j+1)))::cR 6 3 (O j i.1)) (fun i=>m-i.1) ⟨0,Nat.zero_le _⟩ [] (by simp) (fun _ _ _ _ h=>h) (by omega) (by simp -implicitDefEqProofs [go_sem]; exact ⟨w1,w2⟩) (by simp -implicitDefEqProofs [go_sem]; exact ⟨⟨a1,a2⟩,⟨a3,a4⟩,⟨a5 (j+1),a6 (j+1)⟩,fun h=>⟨by rw [if_neg h,←o1],o2⟩⟩) fun ⟨i,hi⟩=>?_
  simp only
  have hb2:O j i≠[]→hp 4 (cR 6 3 (O j i)) 3 = .live 6 (O j i):=fun h=>by rw [aC h]; simp [hp,aH]
  have hl:=hOl j i
  simp -implicitDefEqProofs [go_sem]
  refine ⟨fun h5=>?_,fun h5=>?_⟩
  ·have es:=wS i (by omega)
   have hg:=hWi i h5
   have hs1:=hOs j i
   have hr1:=hOr j (i+1)
   have zu:=Ba hm hm2 hi
   have zr:=pm j (uP m i)
   have zh:=hh.sz
   have zs:=PQ.sz_scale (bN j (uP m i)) h.val
   have k1:=iI (pc (bN j (uP m i))) h (be (by omega)) hh.mono
   rw [aO,hch] at k1
   have k2:=dY c (pc ((bN j (uP m i)).scale h.val)) hc.mono (be (by omega))
   rw [aO,hcc] at k2
   change ag _ _ [_,pA _] (pA (dP c.val h.val j (uP m i))) at k2
   generalize dP c.val h.val j (uP m i)=dp at *
   generalize (bN j (uP m i)).scale h.val=sp at *
   change ag _ _ [pA _,_] _ at k1
   generalize bN j (uP m i)=rp at *
   simp only [aQ] at k1 k2
   have hjm:j*m≤3*4096:=Nat.mul_le_mul (by omega) hm2
   generalize j*m=jm at *
   simp -implicitDefEqProofs [go_sem,hg,c1,c2,d1,d2]
   refine ⟨by omega,ao _ k1 (by simp [go_sem,bW,d4]) ?_⟩
   simp -implicitDefEqProofs [go_sem]
   refine ao _ k2 (by simp [go_sem,bW,c4]) ?_
   simp -implicitDefEqProofs [go_sem]
   refine aI (.inl rfl) (by omega) (by omega) (by simp -implicitDefEqProofs [go_sem]) (by simp [hl]<;>omega) (by simp -implicitDefEqProofs [go_sem]<;>(intro h; simp [h,lK])) ?_
   simp -implicitDefEqProofs [go_sem,es]
   have hn1:O j (i+1)≠[]:=by rw [hs1]; simp
   rw [hs1] at hr1
   have u1:=(renL_ro (nm [(3,12)]) _ hr1).symm
   have u2:=cloL_ro (n:=4) _ hr1
   have u3:=(renL_ro (nm [(3,12)]) _ c4).symm
   have u4:=(renL_ro (nm [(3,12)]) _ d4).symm
   have u5:=(renL_ro (nm [(3,12)]) _ (hcirc (j+1))).symm
   have u6:=(renL_ro (nm [(3,12)]) _ hWr).symm
   have hl1:(O j (i+1)).length=(O j i).length+1:=by rw [hs1]; simp
   refine ae ⟨i+1,h5⟩ (by simp only; omega) [(3,12)] (by simp) (by simp only [aC hn1]; simp [nm]) (by simp) (by simp only [aV hn1,hl1]; simp -implicitDefEqProofs [go_sem,es,←u6,w2]) (by simp only [aC hn1,hs1]; simp -implicitDefEqProofs [go_sem,←u1,u2,←u3,a2,←u4,a4,←u5,a6])
  ·have him:i=m:=by omega
   subst him
   rw [hOm]
   rw [hOm] at hb2
   have o3:=(renL_ro (nm []) _ (hOr (j+1) 0)).symm
   have o4:=cloL_ro (n:=4) _ (hOr (j+1) 0)
   simp -implicitDefEqProofs [go_sem,ej]
   refine ae ⟨j+1,by omega⟩ (by simp only; omega) [] (by simp) (fun _ _ _ _ h=>h) (by simp) (by simp -implicitDefEqProofs [go_sem,ej]) (by simp -implicitDefEqProofs [go_sem]; exact ⟨⟨a1,a2⟩,⟨a3,a4⟩,⟨a5 (j+1),a6 (j+1)⟩,fun h=>⟨by rw [if_neg h,←o3],o4⟩⟩)
 ·have hj4:j=4:=by omega
  subst hj4
  obtain ⟨q1,q2,q3⟩:=fS (f:=(aH (aH (aH (hp 4 (cR 6 3 (O 4 0))) 2 (BS.live 5 (C 4))) 1 (BS.live 3 [AV.agg ch])) 0 (BS.live 6 [AV.agg cc]))) (sz:=6) (id:=3) (hOr 4 0) (fun h=>by simp -implicitDefEqProofs [go_sem,h])
  exact ⟨q1,q2,Wk.tup (.cons q3 (rQ.refl _))⟩
theorem MX {m:Nat} (hm:1≤m):uP m m=(uP m 0).rot:=by
 have hm0:((m:Int):Rat)≠0:=by
  have:(m:Int)≠0:=by omega
  exact_mod_cast this
 have e1:tQ m m=1:=by unfold tQ; grind
 have e0:tQ m 0=0:=by unfold tQ; simp; grind
 unfold uP kQ
 rw [e1,e0]
 refine PQ.ext ?_ ?_<;>simp only [PQ.rot,PQ.scale]<;>grind
theorem AR (j:Nat) (p:PQ):bN j p.rot=bN (j+1) p:=by
 induction j with
 | zero=>rfl
 | succ j ih =>
  change (bN j p.rot).rot=_
  rw [ih]; rfl
theorem P7 (p:PQ):bN 4 p=p:=by
 refine PQ.ext ?_ ?_<;>simp only [bN,PQ.rot]<;>grind
theorem sv (c:PQ) (h:Rat) (m:Nat) (hm:1≤m):∀(q k:Nat) (hk:k<(dL c h m q).length),(dL c h m q)[k]=dP c h (k / m) (uP m (k%m))
 | 0,k,hk=>by simp [dL] at hk
 | q+1,k,hk=>by
  rw [da] at hk
  by_cases h1:k<q*m
  ·have:=sv c h m hm q k (by rw [da]; exact h1)
   rw [←this]
   simp only [dL]
   exact List.getElem_append_left (by rw [da]; exact h1)
  ·have hq:k / m=q:=by
    rw [Nat.succ_mul] at hk
    obtain ⟨r,hr,hrm⟩:∃r,k=m*q+r∧r<m:=⟨k-q*m,by rw [Nat.mul_comm m q]; omega,by omega⟩
    rw [hr,Nat.mul_add_div (by omega),Nat.div_eq_of_lt hrm]; omega
   have hr:k%m=k-q*m:=by
    have:=Nat.div_add_mod k m
    rw [hq,Nat.mul_comm] at this; omega
   have e:(dL c h m (q+1))[k]'(by rw [da]; exact hk)=(dQ c h m q)[k-q*m]'(by rw [Nat.succ_mul] at hk; rw [dQ,List.length_map,jA]; omega):=by
    simp only [dL]
    rw [List.getElem_append_right (by rw [da]; omega)]
    simp only [da]
   rw [e,hq,hr]
   simp [dQ,uL]
theorem w_ (c:PQ) (h:Rat) (m:Nat) (hm:1≤m) (k:Nat) (hk:k<4*m):(dL c h m 4)[(k+1)%(4*m)]'(by rw [da]; exact Nat.mod_lt _ (by omega))=dP c h (k / m) (uP m (k%m+1)):=by
 rw [sv c h m hm]
 have hdm:=Nat.div_add_mod k m
 have hlt:=Nat.mod_lt k (show 0<m by omega)
 have hq4:k / m<4:=by rw [Nat.div_lt_iff_lt_mul (by omega)]; omega
 generalize k / m=q at *
 generalize k%m=i at *
 subst hdm
 by_cases hi:i+1<m
 ·have hlt4:m*q+i+1<4*m:=by
   have:m*q+m≤4*m:=by rw [←Nat.mul_succ,Nat.mul_comm 4]; exact Nat.mul_le_mul_left _ (by omega)
   omega
  rw [Nat.mod_eq_of_lt hlt4,Nat.add_assoc,Nat.mul_add_div (by omega),Nat.mul_add_mod,Nat.div_eq_of_lt hi,Nat.mod_eq_of_lt hi]
  rfl
 ·have him:i+1=m:=by omega
  rw [him,MX hm]
  have e:m*q+i+1=m*(q+1):=by rw [Nat.mul_succ]; omega
  rw [e]
  unfold dP
  by_cases hq:q<3
  ·have:m*(q+1)<4*m:=by rw [Nat.mul_comm 4]; exact Nat.mul_lt_mul_of_pos_left (by omega) (by omega)
   rw [Nat.mod_eq_of_lt this,Nat.mul_div_cancel_left _ (by omega),Nat.mul_mod_right,AR]
  ·have:q=3:=by omega
   subst this
   rw [show m*(3+1)=4*m by omega,Nat.mod_self,Nat.zero_div,Nat.zero_mod,AR,P7]
   rfl
def nD (h:Rat) (m i:Nat):Rat:=h*h*((((uP m i).x+(uP m (i+1)).x)*bB)*(((uP m i).x+(uP m (i+1)).x)*bB)+(((uP m i).y+(uP m (i+1)).y)*bB)*(((uP m i).y+(uP m (i+1)).y)*bB))
theorem JX (j:Nat) (p q:PQ):((bN j p).x+(bN j q).x)*((bN j p).x+(bN j q).x)+((bN j p).y+(bN j q).y)*((bN j p).y+(bN j q).y)=(p.x+q.x)*(p.x+q.x)+(p.y+q.y)*(p.y+q.y):=by
 induction j with
 | zero=>rfl
 | succ j ih=>rw [←ih]; simp only [bN,PQ.rot]; grind
theorem Dr (c:PQ) (h:Rat) (j:Nat) (m i:Nat):((dP c h j (uP m i)).mix (dP c h j (uP m (i+1))) bB).far c=nD h m i:=by
 have e:=JX j (uP m i) (uP m (i+1))
 unfold nD dP
 generalize uP m i=p at *
 generalize uP m (i+1)=q at *
 generalize bN j p=p' at *
 generalize bN j q=q' at *
 simp only [PQ.far,PQ.dot,PQ.sub,PQ.mix,PQ.add,PQ.scale,bB] at *
 grind
def dV (h:Rat) (m:Nat) (d:Rat):Bool:=decide (0<d) && (List.range m).any fun i=>decide (nD h m i<d*d)
def fC (x:Rat):List AV:=[.bool (decide (x.num<0)),qA x.num.natAbs,qA x.den]
theorem bc (x:Rat):fA x = .agg (fC x):=rfl
@[go_sem] theorem R8 (x:Rat):(fC x).length=3:=rfl
@[go_sem] theorem QG (x:Rat):(fC x).take 3=fC x:=rfl
@[go_sem] theorem QF (x:Rat):(fC x).drop 3=[]:=rfl
@[go_sem] theorem kE (x:Rat):roL (fC x):=by have:=iJ x; rw [bc] at this; simpa only [ro] using this
@[go_sem] theorem RW (n:Nat) (x:Rat):cloL n (fC x):=cloL_ro _ (kE x)
@[go_sem] theorem Sr (rn:Nat→Nat) (x:Rat):renL rn (fC x)=fC x:=renL_ro rn _ (kE x)
@[go_sem] theorem QI (f:Nat→BS) (x:Rat):fitsL f (fC x):=fitsL_ro f _ (kE x)
@[go_sem] theorem Ry (f:Nat→BS) (x:Rat):viewL f (fC x)=fC x:=viewL_ro f _ (kE x)
def eC (p:PQ):List AV:=[.bool (decide (p.x.num<0)),qA p.x.num.natAbs,qA p.x.den,.bool (decide (p.y.num<0)),qA p.y.num.natAbs,qA p.y.den]
theorem aP (p:PQ):eA p = .agg (eC p):=rfl
@[go_sem] theorem R7 (p:PQ):(eC p).length=6:=rfl
@[go_sem] theorem QE (p:PQ):(eC p).take 6=eC p:=rfl
@[go_sem] theorem QD (p:PQ):(eC p).drop 6=[]:=rfl
@[go_sem] theorem OX (p:PQ):(eC p).take 3=fC p.x:=rfl
@[go_sem] theorem OW (p:PQ):(eC p).drop 3=fC p.y:=rfl
@[go_sem] theorem bH (p:PQ):roL (eC p):=by have:=qE p; rw [aP] at this; simpa only [ro] using this
@[go_sem] theorem RV (n:Nat) (p:PQ):cloL n (eC p):=cloL_ro _ (bH p)
@[go_sem] theorem Sq (rn:Nat→Nat) (p:PQ):renL rn (eC p)=eC p:=renL_ro rn _ (bH p)
@[go_sem] theorem QH (f:Nat→BS) (p:PQ):fitsL f (eC p):=fitsL_ro f _ (bH p)
@[go_sem] theorem Rx (f:Nat→BS) (p:PQ):viewL f (eC p)=eC p:=viewL_ro f _ (bH p)
@[go_sem] theorem Qv (x y:Rat):fC x++(fC y++List.drop 6 (fC x++[AV.bool false,AV.sl 0 true [],AV.sl 0 true []]))=eC ⟨x,y⟩:=rfl
@[go_sem] theorem cY (l:List PQ):roL (l.map eA):=dq qE
@[go_sem] theorem Rg (rn:Nat→Nat) (l:List PQ):renL rn (l.map eA)=l.map eA:=renL_ro rn _ (cY l)
@[go_sem] theorem Qz (n:Nat) (l:List PQ):cloL n (l.map eA):=cloL_ro _ (cY l)
@[go_sem] theorem O0 (f:Nat→BS) (l:List PQ):fitsL f (l.map eA):=fitsL_ro f _ (cY l)
@[go_sem] theorem Qe (f:Nat→BS) (l:List PQ):viewL f (l.map eA)=l.map eA:=viewL_ro f _ (cY l)
theorem eg (p:PQ) {n:Nat} (h:p.sz≤n):sz p.x≤n∧sz p.y≤n:=⟨Nat.le_trans p.sz_x h,Nat.le_trans p.sz_y h⟩
theorem sJ (p:PR) (hp:p.In 17179869184):ag Tryz.prog 101 [p.av] (eA p.val):=by
 have k1:=hp.x.sz; have k2:=hp.y.sz
 have finr:∀z:RQ,z.In 17179869184→ag Tryz.prog 19 [z.av] (fA z.val):=fun z hz=>zD z hz.sm.ok (by
  have:nl z.num.natAbs≤z.p.length:=by unfold RQ.num; rw [dO]; exact qB hz.limp
  have:=hz.lp; omega) (by
  have:nl z.den≤max 1 z.q.length:=by
   unfold RQ.den; split
   ·rw [jR]; omega
   ·have:=qB hz.limq; omega
  have:=hz.lq; omega)
 have h1:=finr p.x hp.x
 have h2:=finr p.y hp.y
 refine Pg Tryz.func101 rfl [.cell 2 118] rfl (qE _) ?_
 unfold PR.av RQ.av PR.val at *
 simp only [aP,bc] at *
 generalize p.x.val=vx at *
 generalize p.y.val=vy at *
 simp -implicitDefEqProofs [go_sem]
 refine aa h1 ?_
 simp -implicitDefEqProofs [go_sem]
 refine aa h2 ?_
 simp -implicitDefEqProofs [go_sem,aL]
theorem Dm {c:PQ} {h:Rat} {q m i:Nat} (hc:c.sz≤1048576) (hh:sz h≤1048576) (hm:1≤m) (hm2:m≤4096) (hi:i≤m):(dP c h q (uP m i)).sz≤4194304:=by
 have z1:=Ba hm hm2 hi
 have z2:=pm q (uP m i)
 have z3:=PQ.sz_scale (bN q (uP m i)) h
 have z4:=PQ.sz_add c ((bN q (uP m i)).scale h)
 unfold dP; omega
theorem BH (c:PR) (h d:Rat) (m:Nat) (hc:c.In 1048576) (hh:sz h≤1048576) (hd:sz d≤1048576) (hm:1≤m) (hm2:m≤4096) :
 ag Tryz.prog 236 [pL (dL c.val h m 4),c.av,rA d] (.bool (dV h m d)):=by
 have hs:=jx d (by omega)
 have h2:=li d d (by omega) (by omega)
 have zd:=aJ d d
 have hhf:=bM 1 2 (by omega) (by omega) (by omega)
 rw [←dc] at hhf
 have zhf:=fv
 have hcz:=hc.sz
 obtain ⟨cc,hcc,c1,c2,c3,c4⟩:∃cc,c.av = .agg cc∧cc.length=6∧cc.take 6=cc∧cc.drop 6=[]∧roL cc:=⟨_,rfl,rfl,rfl,rfl,by have:=ju c; unfold PR.av at this; simpa only [ro] using this⟩
 have hfar:=fun p (hp:PQ.sz p≤1073741824)=>vS c (pc p) hc.mono (be hp)
 simp only [aO] at hfar
 rw [hcc] at hfar ⊢
 obtain ⟨L,hL⟩:∃L,L=dL c.val h m 4:=⟨_,rfl⟩
 have hLl:L.length=4*m:=by rw [hL,da]
 have hLg:∀k,k<4*m→∃hk:k<L.length,L[k]=dP c.val h (k / m) (uP m (k%m)):=fun k hk=>⟨by omega,by subst hL; exact sv _ _ _ hm _ _ _⟩
 have hLn:∀k,k<m→∃hk:k+1<L.length,L[k+1]=dP c.val h 0 (uP m (k+1)):=fun k hk=>⟨by omega,by
  have h1:=w_ c.val h m hm k (by omega)
  have h2:(k+1)%(4*m)=k+1:=Nat.mod_eq_of_lt (by omega)
  simp only [h2,Nat.div_eq_of_lt hk,Nat.mod_eq_of_lt hk] at h1
  subst hL; exact h1⟩
 rw [←hL]
 refine Pg Tryz.func236 rfl [.tmp 6] rfl (by simp -implicitDefEqProofs [go_sem]) ?_
 simp only [bA] at hs h2 hhf
 rw [bA]
 unfold pL
 simp -implicitDefEqProofs [go_sem,c1,c2]
 refine ac hs ?_
 by_cases h0:d≤0
 ·have:aM d≤0:=by
   have:¬0<aM d:=by rw [bQ]; grind
   omega
  have hn:dV h m d=false:=by
   unfold dV
   rw [decide_eq_false (by grind)]; rfl
  simp -implicitDefEqProofs [go_sem,this,hn]
 ·have:¬aM d≤0:=by
   have:0<aM d:=by rw [bQ]; grind
   omega
  have hn:dV h m d=(List.range m).any fun i=>decide (nD h m i<d*d):=by
   unfold dV
   rw [decide_eq_true (by grind)]; rfl
  rw [hn]
  have hq4:(((4*m:Nat):Int).tdiv 4)=(m:Int):=by rw [Int.tdiv_eq_ediv_of_nonneg (by omega)]; omega
  simp -implicitDefEqProofs [go_sem,this]
  refine ac h2 ?_
  rw [←hLl] at hq4
  simp -implicitDefEqProofs [go_sem,hq4]
  have hmw:IntKind.i64.wrap (m:Int)=m:=bS (by omega)
  have a1:=(renL_ro (nm []) _ c4).symm
  have a2:=cloL_ro (n:=3) _ c4
  refine ap 3 (α:={i:Nat // i≤m∧∀k,k<i→¬nD h m k<d*d}) (fun i=>[(0,.sl 6 false (L.map pA)),(4,.ptr 0 0 0),(7,.ptr 2 0 0),(17,.int .i64 m),(18,.int .i64 i.1)])
   (fun i=>[(0,.live 6 [.agg cc]),(2,.live 3 [.agg (rC (d*d))])]) (fun i=>m-i.1) ⟨0,Nat.zero_le _,fun _ h=>by omega⟩ [] (by simp) (fun _ _ _ _ h=>h) (by omega) (by simp -implicitDefEqProofs [go_sem,hmw]) (by simp -implicitDefEqProofs [go_sem]; exact ⟨a1,a2⟩) fun ⟨i,hi,hno⟩=>?_
  simp -implicitDefEqProofs [go_sem]
  refine ⟨fun h5=>?_,fun h5=>?_⟩
  ·have es:=wS i (by omega)
   obtain ⟨k1,g1⟩:=hLg i (by omega)
   obtain ⟨k2,g2⟩:=hLn i h5
   rw [Nat.div_eq_of_lt h5,Nat.mod_eq_of_lt h5] at g1
   have e1:=eV k1
   have e2:=eV k2
   rw [g1] at e1
   rw [g2] at e2
   have z1:=Dm (q:=0) (i:=i) hcz hh hm hm2 (by omega)
   have z2:=Dm (q:=0) (i:=i+1) hcz hh hm hm2 (by omega)
   have hmx:=Ig (dP c.val h 0 (uP m i)) (dP c.val h 0 (uP m (i+1))) bB (by omega) (by omega) (by omega)
   have z3:=PQ.sz_mix (dP c.val h 0 (uP m i)) (dP c.val h 0 (uP m (i+1))) bB
   have hf1:=hfar _ (by omega:((dP c.val h 0 (uP m i)).mix (dP c.val h 0 (uP m (i+1))) bB).sz≤1073741824)
   have zf:=PQ.sz_far c.val ((dP c.val h 0 (uP m i)).mix (dP c.val h 0 (uP m (i+1))) bB)
   have hcm:=oU (c.val.far ((dP c.val h 0 (uP m i)).mix (dP c.val h 0 (uP m (i+1))) bB)) (d*d) (by omega) (by omega)
   rw [G2,Dr] at hf1 hcm
   generalize (dP c.val h 0 (uP m i)).mix (dP c.val h 0 (uP m (i+1))) bB=mp at *
   generalize dP c.val h 0 (uP m i)=p1 at *
   generalize dP c.val h 0 (uP m (i+1))=p2 at *
   change ag _ _ [_,pA _] _ at hf1
   simp only [aQ,bA] at hmx hf1 hcm
   obtain ⟨i1,hi1⟩:∃i1,i1=i+1:=⟨_,rfl⟩
   rw [←hi1] at es e2 k2
   simp -implicitDefEqProofs [go_sem,e1,es,e2,c1,c2]
   refine ⟨by omega,by omega,aa hhf ?_⟩
   simp -implicitDefEqProofs [go_sem]
   refine aa hmx ?_
   simp -implicitDefEqProofs [go_sem]
   refine ao _ hf1 (by simp [go_sem,bW,c4]) ?_
   simp -implicitDefEqProofs [go_sem]
   refine aa hcm ?_
   by_cases hlt:nD h m i<d*d
   ·have:bJ (nD h m i) (d*d)<0:=by rw [dJ]; exact hlt
    simp -implicitDefEqProofs [go_sem,this]
    exact ⟨i,h5,hlt⟩
   ·have:¬bJ (nD h m i) (d*d)<0:=by rw [dJ]; exact hlt
    simp -implicitDefEqProofs [go_sem,this,es]
    refine ae ⟨i1,by omega,fun k hk=>?_⟩ (by simp only; omega) [] (by simp) (fun _ _ _ _ h=>h) (by simp) (by simp -implicitDefEqProofs [go_sem,es]) (by simp -implicitDefEqProofs [go_sem]; exact ⟨a1,a2⟩)
    rcases (by omega:k<i∨k=i) with h|h
    ·exact hno k h
    ·subst h; exact hlt
  ·have him:i=m:=by omega
   subst him
   exact fun k hk=>hno k hk
def mW (N:Nat→Bool) (D:Nat→List PQ):Nat→Nat→List PQ×Int
 | 0,_=>([],24)
 | f+1,e=>if N e=true then mW N D f (e+1) else (D e,0)
def mV (c:PQ) (h tol:Rat):List PQ×Int :=
 if h≤0∨tol≤0 then ([],1) else mW (fun e=>dV h (2 ^ e) (h-tol)) (fun e=>dL c h (2 ^ e) 4) 13 0
theorem KZ {e:Nat} (he:e≤13):2 ^ e≤8192:=by
 have:2 ^ e≤2 ^ 13:=Nat.pow_le_pow_right (by omega) he
 omega
theorem Ay {e:Nat} (he:e≤13):2 ^ e≤4096↔e≤12:=by
 constructor
 ·intro h
  rcases (by omega:e≤12∨e=13) with h1|h1
  ·exact h1
  ·subst h1; simp at h
 ·intro h
  have:2 ^ e≤2 ^ 12:=Nat.pow_le_pow_right (by omega) h
  omega
theorem lE (c:PR) (h tol:RQ) (hc:c.In 1024) (hh:h.In 1024) (ht:tol.In 1024) :
 ag Tryz.prog 180 [c.av,h.av,tol.av] (.tup [pL (mV c.val h.val tol.val).1,.int .i64 (mV c.val h.val tol.val).2]):=by
 have hs:=bI h hh.sm.ok
 have hs2:=bI tol ht.sm.ok
 have zc:=hc.sz; have zh:=hh.sz; have zt:=ht.sz
 have hsub:=ij h tol hh.sm ht.sm
 have zs:=sz_sub h.val tol.val
 have hdp:=fun m (h0:0<h.val) hm hm2=>xb c h m hc.mono hh.mono h0 hm hm2
 have hnr:=fun m hm hm2=>BH c h.val (h.val-tol.val) m hc.mono (by omega) (by omega) hm hm2
 obtain ⟨cc,hcc,c1,c2,c3,c4⟩:∃cc,c.av = .agg cc∧cc.length=6∧cc.take 6=cc∧cc.drop 6=[]∧roL cc:=⟨_,rfl,rfl,rfl,rfl,by have:=ju c; unfold PR.av at this; simpa only [ro] using this⟩
 obtain ⟨ch,hch,d1,d2,d3,d4⟩:∃ch,h.av = .agg ch∧ch.length=3∧ch.take 3=ch∧ch.drop 3=[]∧roL ch:=⟨_,rfl,rfl,rfl,rfl,gy h⟩
 obtain ⟨ct,hct,t1,t2,t3,t4⟩:∃ct,tol.av = .agg ct∧ct.length=3∧ct.take 3=ct∧ct.drop 3=[]∧roL ct:=⟨_,rfl,rfl,rfl,rfl,gy tol⟩
 simp only [hcc,hch,hct] at hs hs2 hsub hdp hnr
 rw [hcc,hch,hct]
 refine ag.of_ca (by simp only [ro,roL]; exact ⟨iV _,trivial,trivial⟩) (Cg Tryz.func180 rfl [.tmp 6,.tmp 7] rfl ?_)
 have wnil:∀e,Wk (.tup [.sl 0 true [],.int .i64 e]) (.tup [pL [],.int .i64 e]):=fun e=>Wk.tup (.cons (Wk.nil 0 6 true) (rQ.refl _))
 simp -implicitDefEqProofs [go_sem,c1,c2,d1,d2,t1,t2]
 refine ah _ hs (by simp [go_sem,d4]) ?_
 by_cases n1:h.val≤0
 ·have:aM h.val≤0:=by
   have:¬0<aM h.val:=by rw [bQ]; grind
   omega
  have hr:mV c.val h.val tol.val=([],1):=if_pos (.inl n1)
  rw [hr]
  simp -implicitDefEqProofs [go_sem,this]
  exact wnil 1
 ·have p1:¬aM h.val≤0:=by
   have:0<aM h.val:=by rw [bQ]; grind
   omega
  simp -implicitDefEqProofs [go_sem,p1,t1,t2]
  refine ah _ hs2 (by simp [go_sem,t4]) ?_
  by_cases n2:tol.val≤0
  ·have:aM tol.val≤0:=by
    have:¬0<aM tol.val:=by rw [bQ]; grind
    omega
   have hr:mV c.val h.val tol.val=([],1):=if_pos (.inr n2)
   rw [hr]
   simp -implicitDefEqProofs [go_sem,this]
   exact wnil 1
  ·have p2:¬aM tol.val≤0:=by
    have:0<aM tol.val:=by rw [bQ]; grind
    omega
   have hr:mV c.val h.val tol.val=_:=if_neg (fun hh=>hh.elim n1 n2)
   obtain ⟨R,hR⟩:∃R,R=mW (fun e=>dV h.val (2 ^ e) (h.val-tol.val)) (fun e=>dL c.val h.val (2 ^ e) 4) 13 0:=⟨_,rfl⟩
   rw [hr,←hR]
   simp -implicitDefEqProofs [go_sem,p2]
   have a1:=(renL_ro (nm []) _ c4).symm
   have a2:=cloL_ro (n:=3) _ c4
   have a3:=(renL_ro (nm []) _ d4).symm
   have a4:=cloL_ro (n:=3) _ d4
   have a5:=(renL_ro (nm []) _ t4).symm
   have a6:=cloL_ro (n:=3) _ t4
   have h0:0<h.val:=by grind
   refine ap 3 (α:={e:Nat // e≤13∧R=mW (fun e=>dV h.val (2 ^ e) (h.val-tol.val)) (fun e=>dL c.val h.val (2 ^ e) 4) (13-e) e})
    (fun e=>[(3,.ptr 0 0 0),(4,.ptr 1 0 0),(5,.ptr 2 0 0),(8,.int .i64 (2 ^ e.1:Nat))]) (fun e=>[(0,.live 6 [.agg cc]),(1,.live 3 [.agg ch]),(2,.live 3 [.agg ct])]) (fun e=>13-e.1) ⟨0,by omega,hR⟩ [] (by simp) (fun _ _ _ _ h=>h) (by omega) (by simp -implicitDefEqProofs [go_sem]) (by simp -implicitDefEqProofs [go_sem]; exact ⟨⟨a1,a2⟩,⟨a3,a4⟩,a5,a6⟩) fun ⟨e,he,hre⟩=>?_
   simp only
   have hpw:=KZ he
   have hp12:=Ay he
   have hp1:1≤2 ^ e:=Nat.pow_pos (by omega)
   have e2:IntKind.i64.wrap (((2 ^ e:Nat):Int)*2)=((2 ^ (e+1):Nat):Int):=by rw [bS (by omega),Nat.pow_succ]; omega
   obtain ⟨m,hm⟩:∃m,m=2 ^ e:=⟨_,rfl⟩
   rw [←hm] at hpw hp12 hp1 e2 ⊢
   simp -implicitDefEqProofs [go_sem]
   refine ⟨fun h5=>?_,fun h5=>?_⟩
   ·have he12:e≤12:=hp12.1 (by omega)
    have hd:=hdp m h0 hp1 (by omega)
    have hn:=hnr m hp1 (by omega)
    have hst:mW (fun e=>dV h.val (2 ^ e) (h.val-tol.val)) (fun e=>dL c.val h.val (2 ^ e) 4) (13-e) e=if dV h.val m (h.val-tol.val)=true then mW (fun e=>dV h.val (2 ^ e) (h.val-tol.val)) (fun e=>dL c.val h.val (2 ^ e) 4) (13-(e+1)) (e+1) else (dL c.val h.val m 4,0):=by
     rw [show 13-e=(13-(e+1))+1 by omega]
     simp only [mW]
     rw [←hm]
    have hro:=bK (dL c.val h.val m 4)
    rw [hst] at hre
    unfold pL at hd hn
    generalize dV h.val m (h.val-tol.val)=nb at *
    simp only [bA] at hsub hn
    simp -implicitDefEqProofs [go_sem,c1,c2,d1,d2]
    refine ah _ hd (by simp [go_sem,c4,d4]) ?_
    simp -implicitDefEqProofs [go_sem,c1,c2,d1,d2,t1,t2]
    refine ao _ hsub (by simp [go_sem,d4,t4]) ?_
    simp -implicitDefEqProofs [go_sem]
    refine ao _ hn (by simp [go_sem,c4,gK]) ?_
    cases nb with
    | true =>
     rw [if_pos rfl] at hre
     simp -implicitDefEqProofs [go_sem]
     rw [e2]
     refine ae ⟨e+1,by omega,hre⟩ (by simp only; omega) [] (by simp) (fun _ _ _ _ h=>h) (by simp) (by simp -implicitDefEqProofs [go_sem]) (by simp -implicitDefEqProofs [go_sem]; exact ⟨⟨a1,a2⟩,⟨a3,a4⟩,a5,a6⟩)
    | false =>
     rw [if_neg (by simp)] at hre
     subst hre
     simp -implicitDefEqProofs [go_sem,pL]
     exact Wk.refl _
   ·have he13:e=13:=by
     have:¬e≤12:=fun h=>by have:=hp12.2 h; omega
     omega
    subst he13
    have hre:R=([],24):=hre
    subst hre
    simp -implicitDefEqProofs [go_sem]
    exact wnil 24
theorem AM (x y:PQ):Lc Tryz.prog 117 [.own 6 0 0 2] 6 [.agg (pC x),.agg (pC y)] (.tup []) [.agg (pC y),.agg (pC x)]:=by
 refine Cg Tryz.func117 rfl [] rfl ?_
 have w1:IntKind.i64.wrap 1=1:=rfl
 have w0:IntKind.i64.wrap 0=0:=rfl
 simp -implicitDefEqProofs [go_sem,w1,w0]
 refine ap 1 (α:={k:Nat // k≤1}) (fun k=>[(0,.own 6 0 0 2),(2,.int .i64 k.1),(3,.int .i64 (1-k.1:Int))]) (fun k=>[(0,.live 6 (if k.1=0 then [.agg (pC x),.agg (pC y)] else [.agg (pC y),.agg (pC x)]))]) (fun k=>1-k.1) ⟨0,by omega⟩ [] (by simp) (by simp) (by omega) (by simp -implicitDefEqProofs [go_sem]) (by simp -implicitDefEqProofs [go_sem]) fun ⟨k,hk⟩=>?_
 rcases (show k=0∨k=1 by omega) with rfl|rfl
 ·simp -implicitDefEqProofs [go_sem,w1,w0]
  exact ae ⟨1,by omega⟩ (by simp only; omega) [] (by simp) (by simp) (by simp) (by simp -implicitDefEqProofs [go_sem]) (by simp -implicitDefEqProofs [go_sem])
 ·simp -implicitDefEqProofs [go_sem]
theorem Ir (x m y:PQ):Lc Tryz.prog 117 [.own 6 0 0 3] 6 [.agg (pC x),.agg (pC m),.agg (pC y)] (.tup []) [.agg (pC y),.agg (pC m),.agg (pC x)]:=by
 refine Cg Tryz.func117 rfl [] rfl ?_
 have w2:IntKind.i64.wrap 2=2:=rfl
 have w1:IntKind.i64.wrap 1=1:=rfl
 have w0:IntKind.i64.wrap 0=0:=rfl
 simp -implicitDefEqProofs [go_sem,w1,w0,w2]
 refine ap 1 (α:={k:Nat // k≤1}) (fun k=>[(0,.own 6 0 0 3),(2,.int .i64 k.1),(3,.int .i64 (2-k.1:Int))]) (fun k=>[(0,.live 6 (if k.1=0 then [.agg (pC x),.agg (pC m),.agg (pC y)] else [.agg (pC y),.agg (pC m),.agg (pC x)]))]) (fun k=>1-k.1) ⟨0,by omega⟩ [] (by simp) (by simp) (by omega) (by simp -implicitDefEqProofs [go_sem]) (by simp -implicitDefEqProofs [go_sem]) fun ⟨k,hk⟩=>?_
 rcases (show k=0∨k=1 by omega) with rfl|rfl
 ·simp -implicitDefEqProofs [go_sem,w1,w0,w2]
  exact ae ⟨1,by omega⟩ (by simp only; omega) [] (by simp) (by simp) (by simp) (by simp -implicitDefEqProofs [go_sem]) (by simp -implicitDefEqProofs [go_sem])
 ·simp -implicitDefEqProofs [go_sem]
def RQ.sml (z:RQ) (m:Nat):Prop:=z.p.length≤m∧z.q.length≤m
instance (z:RQ) (m:Nat):Decidable (z.sml m):=inferInstanceAs (Decidable (_∧_))
theorem i8 (c:PR) (m:Nat):ag Tryz.prog 79 [c.av,.int .i64 m] (.bool (decide (c.x.sml m∧c.y.sml m))):=by
 have h1:=i7 c.x m
 have h2:=i7 c.y m
 change ag _ _ _ (.bool (decide (c.x.sml m))) at h1
 change ag _ _ _ (.bool (decide (c.y.sml m))) at h2
 refine Pg Tryz.func79 rfl [.tmp 4] rfl (by simp -implicitDefEqProofs [go_sem]) ?_
 unfold PR.av RQ.av at *
 simp -implicitDefEqProofs [go_sem]
 refine ac h1 ?_
 by_cases a1:c.x.sml m
 ·simp -implicitDefEqProofs [go_sem,a1]
  refine ac h2 ?_
  by_cases a2:c.y.sml m
  ·simp -implicitDefEqProofs [go_sem,a2]
  ·simp -implicitDefEqProofs [go_sem,a2]
 ·simp -implicitDefEqProofs [go_sem,a1]
theorem finr (z:RQ) (hz:z.In 17179869184):ag Tryz.prog 19 [z.av] (fA z.val):=zD z hz.sm.ok (by
 have:nl z.num.natAbs≤z.p.length:=by unfold RQ.num; rw [dO]; exact qB hz.limp
 have:=hz.lp; omega) (by
 have:nl z.den≤max 1 z.q.length:=by
  unfold RQ.den; split
  ·rw [jR]; omega
  ·have:=qB hz.limq; omega
 have:=hz.lq; omega)
theorem bL {z:RQ} {m:Nat} (h:z.sml m) (hl:z.Lm):z.In m:=⟨h.1,hl.1,h.2,hl.2⟩
def nq (c:PR) (h tol:RQ):Prop:=(c.x.sml 1∧c.y.sml 1)∧h.sml 1∧tol.sml 1∧(h.val≤0∨tol.val≤0∨h.val≤tol.val*400)
instance (c:PR) (h tol:RQ):Decidable (nq c h tol):=inferInstanceAs (Decidable (_∧_))
theorem tJ (N:Nat→Bool) (D:Nat→List PQ):∀k e,e+k=13→((mW N D k e).1=[]∧(mW N D k e).2=24)∨∃i,i≤12∧N i=false∧mW N D k e=(D i,0)
 | 0,e,_ => .inl ⟨rfl,rfl⟩
 | k+1,e,h=>by
  unfold mW
  cases hn:N e with
  | true=>simpa using tJ N D k (e+1) (by omega)
  | false=>exact .inr ⟨e,by omega,hn,by simp⟩
theorem ig (c:PQ) (h tol:Rat):((mV c h tol).1=[]∧(mV c h tol).2≠0)∨∃e,e≤12∧0<h∧0<tol∧dV h (2 ^ e) (h-tol)=false∧mV c h tol=(dL c h (2 ^ e) 4,0):=by
 unfold mV
 split
 ·exact .inl ⟨rfl,by decide⟩
 ·rename_i hn
  rcases tJ (fun e=>dV h (2 ^ e) (h-tol)) (fun e=>dL c h (2 ^ e) 4) 13 0 rfl with ⟨h1,h2⟩|⟨i,h1,h2,h3⟩
  ·exact .inl ⟨h1,by rw [h2]; decide⟩
  ·exact .inr ⟨i,h1,by grind,by grind,h2,h3⟩
theorem Mn (a:Addr) (x d s:Int) (w:World) (hs:IntKind.i64.wrap (x+d)=s) (hc:w.cell? a=some (.int .i64 x)) (hz:w.frozen? a=false) :
 Calls Tryz.prog 311 #[.pointer (some a),.int .i64 d] w fun e w'=>e = .returned (.int .i64 s)∧w'=w.setCell a (.int .i64 s):=by
 have hadd:=run_call_add (P:=Tryz.prog) Tryz.func324 (by kernel_rfl) (by kernel_rfl) (by kernel_rfl) .i64 (by kernel_rfl) (y:=d) (s:=s) hc hz (by simp [go_sem]; rw [hs])
 go_enter Tryz.func311,Tryz.ntmps311
 go_wp2
 refine bodyPost_ret (results_tmp rfl _ _ _) rfl ?_
 exact ⟨rfl,rfl⟩
theorem Dk {f:Nat→BS} {n id sz:Nat} {x d s:Int} {rest:List AV} {K:AV→(Nat→BS)→Nat→Prop} (hs:IntKind.i64.wrap (x+d)=s) (hf:f id = .live sz [.agg (.int .i64 x::rest)]) (hK:K (.int .i64 s) (aH f id (.live sz [.agg (.int .i64 s::rest)])) n) :
 CA Tryz.prog 311 [.ptr id 0 0,.int .i64 d] f n K:=by
 intro c vs hk hfr hl
 simp only [Rl] at hl
 obtain ⟨v1,r1,rfl,hv1,v2,r2,rfl,hv2,rfl⟩:=hl
 obtain ⟨e,he,hsz,hnr,hreal⟩:=hk.live id sz _ hf
 have hr:e.real=true:=by
  cases h:e.real with
  | true=>rfl
  | false=>exact absurd (hnr h) (by simp)
 simp only [Rv] at hv1
 obtain ⟨hU,b,o,hv1e,hall⟩:=hv1
 obtain ⟨_,hb,ho⟩:=hall e he
 simp only [Nat.zero_mul,Nat.add_zero] at ho
 subst hb; subst ho
 subst hv1e
 simp only [Rv] at hv2
 subst hv2
 obtain ⟨p0,p1⟩:=oT hk hf he hr (j:=0) (k := .i64) (n:=x) rfl
 simp only [Nat.add_zero] at p0 p1
 obtain ⟨c1,hc1,hk1,hs1,hm1⟩:=ux hk hf he hr (j:=0) (by simp) (a := .int .i64 s) (v := .int .i64 s) rfl rfl
 simp only [Nat.add_zero] at hc1
 refine eK Tryz.func311 rfl (by kernel_rfl) ((Mn _ x d s c.w hs p0 p1).mono ?_)
 rintro e' w' ⟨rfl,rfl⟩
 refine ⟨_,rfl,c1,_,_,n,hc1,hK,hk1,by simp only [Rv],hs1,Nat.le_refl _,fun j=>?_⟩
 by_cases hj:j=id
 ·subst hj
  rw [am,←hfr j,hf]; simp
 ·rw [aq _ _ _ hj]; exact hfr j
theorem tG (k:Nat) (hk:k≤8192):ag Tryz.prog 338 [.int .i64 k] (nA (ax 18446744073709551616 (2 ^ k))):=by
 have ho:=of_pure 1 (by omega)
 have hs:=FZ (ax 18446744073709551616 1) k (by omega) (by have:=cw (B:=18446744073709551616) (n:=1) (k:=1) (by omega) (by decide); unfold cg; omega) (ay (by omega) _)
 rw [aA (by omega),Nat.one_mul] at hs
 generalize 2 ^ k=X0 at *
 refine Pg Tryz.func338 rfl [.tmp 2] rfl (gv _) ?_
 simp -implicitDefEqProofs [go_sem]
 refine ac ho ?_
 simp -implicitDefEqProofs [go_sem]
 refine ac hs ?_
 simp -implicitDefEqProofs [go_sem]
theorem Mv (n:Nat):rA (n:Rat) = .agg [.bool false,nA (ax 18446744073709551616 n),nA (ax 18446744073709551616 1)]:=by
 have:=Ik (n:Int)
 rw [Rat.intCast_natCast] at this
 rw [this]
 simp
theorem AT (n:Nat):ag Tryz.prog 340 [nA (ax 18446744073709551616 n)] (rA (n:Rat)):=by
 have ho:=of_pure 1 (by omega)
 refine Pg Tryz.func340 rfl [.cell 2 27] rfl (dD _) ?_
 rw [Mv]
 generalize ax 18446744073709551616 1=o at *
 simp -implicitDefEqProofs [go_sem]
 refine ac ho ?_
 simp -implicitDefEqProofs [go_sem,aL]
theorem rN (n:Nat):zA (n:Int) = .agg [.bool false,nA (ax 18446744073709551616 n)]:=by
 rw [ud]; rfl
theorem ym (x d:Nat) (hx:nl x<274877906944) (hd:nl d<274877906944) (h0:d≠0):ag Tryz.prog 350 [zA x,zA d] (.tup [zA (x / d:Nat),zA (x%d:Nat),.int .i64 0]):=by
 have hgx:=jB (zc x) (iW (by simp only [Int.natAbs_natCast]; exact d_.2 (by omega)))
 have hgd:=jB (zc d) (iW (by simp only [Int.natAbs_natCast]; exact d_.2 (by omega)))
 rw [cO] at hgx hgd
 change ag _ _ [zA x] _ at hgx
 change ag _ _ [zA d] _ at hgd
 have hdm:=iD (ax 18446744073709551616 x) (ax 18446744073709551616 d) (d_.2 (by omega)) (d_.2 (by omega)) (ay (by omega) _) (ay (by omega) _) (by rw [aA (by omega)]; exact h0)
 rw [aA (by omega),aA (by omega)] at hdm
 have hnq:nl (x / d)≤nl x:=dN (Nat.div_le_self x d)
 have hmd:=fG false (ax 18446744073709551616 (x / d)) (d_.2 (by omega)) (ay (by omega) _)
 rw [aA (by omega)] at hmd
 have hsg:fR false (x / d)=((x / d:Nat):Int):=rfl
 rw [hsg] at hmd
 have hml:=qH ((x / d:Nat):Int) (d:Int) (by simp only [Int.natAbs_natCast]; omega)
 have e1:((x / d:Nat):Int)*(d:Int)=((x / d*d:Nat):Int):=by rw [Int.natCast_mul]
 rw [e1] at hml
 have hlq:nl (x / d*d)≤nl x:=dN (Nat.div_mul_le_self x d)
 have hsb:=wF (zc x) (zc ((x / d*d:Nat):Int)) (iW (by simp only [Int.natAbs_natCast]; exact d_.2 (by omega))) (iW (by simp only [Int.natAbs_natCast]; exact d_.2 (by omega))) (by
  rw [cO,cO]
  simp only [Int.natAbs_natCast]
  refine d_.2 ?_
  have:=p7 x (x / d*d)
  omega)
 rw [cO,cO] at hsb
 have e2:(x:Int)-((x / d*d:Nat):Int)=((x%d:Nat):Int):=by
  have:=Nat.div_add_mod x d
  rw [Nat.mul_comm] at this
  omega
 rw [e2] at hsb
 change ag _ _ [zA x,zA ((x / d*d:Nat):Int)] _ at hsb
 generalize x / d*d=qd at *
 generalize x / d=q at *
 generalize x%d=r at *
 simp only [rN] at *
 refine Pg Tryz.func350 rfl [.cell 4 25,.cell 5 25,.tmp 6] rfl (by simp -implicitDefEqProofs [go_sem]) ?_
 simp -implicitDefEqProofs [go_sem]
 refine aa hgx ?_
 simp -implicitDefEqProofs [go_sem]
 refine aa hgd ?_
 simp -implicitDefEqProofs [go_sem]
 refine ac hdm ?_
 simp -implicitDefEqProofs [go_sem]
 refine ac hmd ?_
 simp -implicitDefEqProofs [go_sem]
 refine aa hml ?_
 simp -implicitDefEqProofs [go_sem]
 refine aa hsb ?_
 simp -implicitDefEqProofs [go_sem,aL]
def Bn (x:Rat):Nat:=x.num.natAbs / x.den
theorem AN (x:Rat) (h0:0≤x) (hs:sz x≤17179869184):ag Tryz.prog 339 [rA x] (zA (Bn x:Nat)):=by
 have hg:=db (qc x) (c_ hs).ok
 rw [br] at hg
 change ag _ _ [rA x] _ at hg
 have ho:=kW x
 have hz1:=bX x
 have hz2:=cf x
 have hdm:=ym x.num.natAbs x.den (by omega) (by omega) x.den_nz
 have hnum:x.num=(x.num.natAbs:Int):=by
  have:=Rat.num_nonneg.2 h0
  omega
 have hrx:rA x = .agg [.bool false,nA (ax 18446744073709551616 x.num.natAbs),nA (ax 18446744073709551616 x.den)]:=by
  have:decide (x.num<0)=false:=by simp; omega
  unfold rA RQ.av qc
  rw [this]
 unfold Bn
 rw [hrx] at hg ho ⊢
 generalize x.num.natAbs / x.den=q at *
 generalize x.num.natAbs%x.den=r at *
 generalize x.num.natAbs=n at *
 generalize x.den=d at *
 simp only [rN] at *
 refine Pg Tryz.func339 rfl [.cell 2 25] rfl (by simp -implicitDefEqProofs [go_sem]) ?_
 simp -implicitDefEqProofs [go_sem]
 refine ac hg ?_
 simp -implicitDefEqProofs [go_sem]
 refine aa ho ?_
 simp -implicitDefEqProofs [go_sem]
 refine aa hdm ?_
 simp -implicitDefEqProofs [go_sem,aL]
def pX (q:Rat) (k:Nat):Nat:=j_ (Bn (q*((2 ^ (2*k):Nat):Rat)))
def cV (q:Rat) (k:Nat):Rat:=((pX q k:Nat):Rat) / ((2 ^ k:Nat):Rat)
theorem Me (n:Nat):j_ n≤n:=by
 obtain ⟨h1,_⟩:=gh n
 rcases Nat.eq_zero_or_pos (j_ n) with h|h
 ·omega
 ·exact Nat.le_trans (Nat.le_mul_of_pos_right _ h) h1
theorem JW {k L:Nat} (hk:k<64*L):nl (2 ^ k)≤L:=by
 refine Ao ?_
 rw [D7]
 exact Nat.pow_lt_pow_right (by omega) hk
theorem p8 {k:Nat} (hk:k≤8192):nl (2 ^ k)≤129:=JW (by omega)
theorem tV (n:Nat):sz (n:Rat)=max (nl n) 1:=by
 have:=nX (n:Int)
 rw [Rat.intCast_natCast] at this
 simpa using this
theorem H8 (x:Rat):nl (Bn x)≤sz x:=Nat.le_trans (dN (Nat.div_le_self _ _)) (bX x)
theorem xM {q:Rat} {k:Nat} (hk:k≤4096):nl (pX q k)≤sz q+130:=by
 unfold pX
 have h1:=dN (Me (Bn (q*((2 ^ (2*k):Nat):Rat))))
 have h2:=H8 (q*((2 ^ (2*k):Nat):Rat))
 have h3:=aJ q ((2 ^ (2*k):Nat):Rat)
 have h4:=tV (2 ^ (2*k))
 have h5:=p8 (k:=2*k) (by omega)
 omega
theorem pl {q:Rat} {k:Nat} (hk:k≤4096):sz (cV q k)≤sz q+260:=by
 unfold cV
 have h1:=xM (q:=q) hk
 have h2:=iS ((pX q k:Nat):Rat) ((2 ^ k:Nat):Rat)
 have h3:=tV (pX q k)
 have h4:=tV (2 ^ k)
 have h5:=p8 (k:=k) (by omega)
 omega
theorem IX (q:Rat) (k:Nat) (hk:k≤4096) (h0:0≤q) (hs:sz q≤16000) (c:Int) :
 IZ Tryz.prog 327 [.ptr 0 0 0,rA q] 2 [.agg [.int .i64 c,.int .i64 k]] fun r l'=>r=nA (ax 18446744073709551616 (pX q k))∧l'=[.agg [.int .i64 c,.int .i64 k]]:=by
 refine Cg Tryz.func327 rfl [.tmp 4] rfl ?_
 obtain ⟨k2,hk2⟩:∃k2,k2=2*k:=⟨_,rfl⟩
 have e1:IntKind.i64.wrap (2*(k:Int))=(k2:Nat):=by rw [bS (by omega)]; omega
 have h1:=tG k2 (by omega)
 have h2:=AT (2 ^ k2)
 have h4:=tV (2 ^ k2)
 have h5:=p8 (k:=k2) (by omega)
 have h3:=li q ((2 ^ k2:Nat):Rat) (by omega) (by omega)
 have h6:=aJ q ((2 ^ k2:Nat):Rat)
 have hnn:0≤q*((2 ^ k2:Nat):Rat):=Rat.mul_nonneg h0 (by exact_mod_cast Nat.zero_le _)
 have h7:=AN (q*((2 ^ k2:Nat):Rat)) hnn (by omega)
 have h8:=H8 (q*((2 ^ k2:Nat):Rat))
 have h9:=F9 (Bn (q*((2 ^ k2:Nat):Rat))) (show nl _≤16384 by omega)
 unfold pX
 rw [←hk2]
 generalize Bn (q*((2 ^ k2:Nat):Rat))=F at *
 generalize q*((2 ^ k2:Nat):Rat)=qq at *
 generalize 2 ^ k2=X at *
 simp only [rN] at h7
 simp only [bA] at h2 h3 h7 ⊢
 simp -implicitDefEqProofs [go_sem,e1]
 refine aa h1 ?_
 simp -implicitDefEqProofs [go_sem]
 refine aa h2 ?_
 simp -implicitDefEqProofs [go_sem]
 refine aa h3 ?_
 simp -implicitDefEqProofs [go_sem]
 refine aa h7 ?_
 simp -implicitDefEqProofs [go_sem]
 refine ac h9 ?_
 simp -implicitDefEqProofs [go_sem]
theorem D5 (k:Nat):2 ^ k≠0:=by have:=Nat.pow_pos (n:=k) (show 0<2 by omega); omega
theorem Gj (m:Nat) (k:Nat) (hk:k≤4096) (hm:nl m≤17179869184) (c d:Int) (hd:IntKind.i64.wrap (c+1)=d) :
 IZ Tryz.prog 326 [.ptr 0 0 0,nA (ax 18446744073709551616 m)] 2 [.agg [.int .i64 c,.int .i64 k]] fun r l'=>r=rA ((m:Rat) / ((2 ^ k:Nat):Rat))∧l'=[.agg [.int .i64 d,.int .i64 k]]:=by
 refine Cg Tryz.func326 rfl [.cell 4 27] rfl ?_
 have h1:=tG k (by omega)
 have h5:=p8 (k:=k) (by omega)
 have h2:=pY (m:Int) ((2 ^ k:Nat):Int) (by simp only [Int.natAbs_natCast]; omega) (by simp only [Int.natAbs_natCast]; omega)
 have hne:=D5 k
 generalize 2 ^ k=X at *
 rw [if_neg (by omega),Rat.intCast_natCast,Rat.intCast_natCast] at h2
 generalize (m:Rat) / (X:Rat)=r at *
 simp only [rN] at h2
 simp only [bA] at h2 ⊢
 simp -implicitDefEqProofs [go_sem]
 refine Dk (sz:=2) (rest:=[.int .i64 k]) hd (by simp -implicitDefEqProofs [go_sem]) ?_
 simp -implicitDefEqProofs [go_sem]
 refine ac h1 ?_
 simp -implicitDefEqProofs [go_sem]
 refine ac h2 ?_
 simp -implicitDefEqProofs [go_sem,aL]
theorem DO (q:Rat) (k:Nat):cV q k=((pX q k:Nat):Rat) / ((2 ^ k:Nat):Rat):=rfl
theorem wa (q:Rat) (k:Nat) (hk:k≤4096) (h0:0≤q) (hs:sz q≤16000):ag Tryz.prog 312 [rA q,.int .i64 k] (.tup [rA (cV q k),.int .i64 0]):=by
 have h1:=IX q k hk h0 hs 0
 have hn:=xM (q:=q) hk
 have h2:=Gj (pX q k) k hk (by omega) 0 1 rfl
 rw [←DO] at h2
 have h3:=jx q (by omega)
 have h3':¬aM q<0:=by
  intro h
  have:=bR (x:=q)
  have hh:=this.1 (by omega)
  have:q=0:=Rat.le_antisymm hh h0
  subst this
  simp [aM,ik] at h
 have hmay:ag Tryz.prog 325 [rA q,.int .i64 k] (.int .i64 0):=by
  simp only [bA] at h3 ⊢
  refine Pg Tryz.func325 rfl [.tmp 4] rfl (by simp -implicitDefEqProofs [go_sem]) ?_
  have n1:¬(k:Int)<0:=by omega
  have n2:¬4096<(k:Int):=by omega
  simp -implicitDefEqProofs [go_sem,n1,n2,hk]
  refine ac h3 ?_
  simp -implicitDefEqProofs [go_sem,h3']
 generalize cV q k=r at *
 generalize ax 18446744073709551616 (pX q k)=L at *
 simp only [bA] at *
 refine Pg Tryz.func312 rfl [.cell 4 27,.tmp 5] rfl (by simp -implicitDefEqProofs [go_sem,gK]) ?_
 simp -implicitDefEqProofs [go_sem]
 refine ac hmay ?_
 simp -implicitDefEqProofs [go_sem]
 refine mB 2 h1 (by simp -implicitDefEqProofs [go_sem]) (by simp -implicitDefEqProofs [go_sem]) (by simp -implicitDefEqProofs [go_sem]) (by simp -implicitDefEqProofs [go_sem,gK]) fun r0 l' ⟨q1,q2⟩=>?_
 subst q1 q2
 simp -implicitDefEqProofs [go_sem]
 refine mB 2 h2 (by simp -implicitDefEqProofs [go_sem]) (by simp -implicitDefEqProofs [go_sem]) (by simp -implicitDefEqProofs [go_sem]) (by simp -implicitDefEqProofs [go_sem]) fun r0 l' ⟨q1,q2⟩=>?_
 subst q1 q2
 simp -implicitDefEqProofs [go_sem,aL]
theorem PQ.dot0 {d:PQ} (h:d.dot d=0):d.x=0∧d.y=0:=by
 unfold PQ.dot at h
 have h1:=cQ d.x; have h2:=cQ d.y
 have e1:d.x*d.x=0:=by grind
 have e2:d.y*d.y=0:=by grind
 exact ⟨by rcases Rat.mul_eq_zero.1 e1 with h|h<;>exact h,by rcases Rat.mul_eq_zero.1 e2 with h|h<;>exact h⟩
def aS (l:List PQ):Nat→Rat
 | 0=>0
 | i+1=>aS l i+(l.getD i ⟨0,0⟩).cross (l.getD ((i+1)%l.length) ⟨0,0⟩)
def er (l:List PQ):Rat:=aS l l.length*bB
theorem sz_far (p q:PQ) {n m:Nat} (hp:p.sz≤n) (hq:q.sz≤m):sz (p.far q)≤4*(n+m+1)+1:=by
 have:=PQ.sz_far p q; omega
theorem oY {x:Rat}:0≤aM x↔0≤x:=by
 have := @iy x
 constructor
 ·intro h
  rcases (Rat.le_total:0≤x∨x≤0) with h1|h1
  ·exact h1
  ·have:¬x<0:=fun h2=>by have:=this.2 h2; omega
   grind
 ·intro h
  have:¬aM x<0:=fun h2=>by have:=this.1 h2; grind
  omega
theorem tF (p q:PQ) (hp:p.sz≤4294967296) (hq:q.sz≤4294967296):ag Tryz.prog 131 [pA p,pA q] (rA (p.dot q)):=by
 have h:=je (pc p) (pc q) (be hp) (be hq)
 rw [aO,aO] at h; exact h
theorem J7 (p q:PQ) (hp:p.sz≤4294967296) (hq:q.sz≤4294967296):ag Tryz.prog 94 [pA p,pA q] (rA (p.cross q)):=by
 have h:=jI (pc p) (pc q) (be hp) (be hq)
 rw [aO,aO] at h; exact h
theorem nw (l:List PQ) (i:Nat) (hl:1≤l.length) (hl2:l.length≤1099511627776) (hi:i<l.length):ag Tryz.prog 128 [pL l,.int .i64 i] (.int .i64 ((i+1)%l.length:Nat)):=by
 refine Pg Tryz.func128 rfl [.tmp 4] rfl (by simp -implicitDefEqProofs [go_sem]) ?_
 have e1:=wT i (by omega)
 have e2:Int.tmod ((i:Int)+1) (l.length:Int)=((i:Int)+1)%(l.length:Int):=by rw [Int.tmod_eq_emod_of_nonneg (by omega)]
 have e3:¬l=[]:=fun h=>by subst h; simp at hl
 unfold pL
 simp -implicitDefEqProofs [go_sem,e1,e2,e3]
theorem IJ {l:List PQ} {N:Nat} (hs:∀p∈l,p.sz≤N):∀i,i≤l.length→sz (aS l i)≤i*(4*N+2)+1
 | 0,_=>by simp only [aS]; rw [show sz 0=1 from by have:=nX 0; simpa [oP] using this]; omega
 | i+1,h=>by
  have ih:=IJ hs i (by omega)
  have g1:l.getD i ⟨0,0⟩∈l:=by rw [List.getD_eq_getElem?_getD,List.getElem?_eq_getElem (by omega)]; exact List.getElem_mem _
  have hlt:(i+1)%l.length<l.length:=Nat.mod_lt _ (by omega)
  have g2:l.getD ((i+1)%l.length) ⟨0,0⟩∈l:=by rw [List.getD_eq_getElem?_getD,List.getElem?_eq_getElem hlt]; exact List.getElem_mem _
  have h1:=hs _ g1; have h2:=hs _ g2
  have h3:=PQ.sz_cross (l.getD i ⟨0,0⟩) (l.getD ((i+1)%l.length) ⟨0,0⟩)
  have h4:=sz_add (aS l i) ((l.getD i ⟨0,0⟩).cross (l.getD ((i+1)%l.length) ⟨0,0⟩))
  simp only [aS,Nat.add_mul,Nat.one_mul]
  omega
theorem pD (l:List PQ) (N:Nat) (hl:1≤l.length) (hl2:l.length≤1048576) (hs:∀p∈l,p.sz≤N) (hN:l.length*(4*N+2)≤4294967296):ag Tryz.prog 61 [pL l] (rA (er l)):=by
 have hz:=bM 0 1 (by omega) (by omega) (by omega)
 rw [show ((0:Int):Rat) / ((1:Int):Rat)=0 by grind] at hz
 have hhf:=bM 1 2 (by omega) (by omega) (by omega)
 rw [←dc] at hhf
 have zhf:=fv
 have hN1:4*N+2≤4294967296:=Nat.le_trans (Nat.le_mul_of_pos_left _ hl) hN
 have hnx:=fun i hi=>nw l i hl (by omega) hi
 have hgt:∀i (h:i<l.length),l.getD i ⟨0,0⟩=l[i]:=fun i h=>by rw [List.getD_eq_getElem?_getD,List.getElem?_eq_getElem h]; rfl
 have hszA:∀i,i≤l.length→sz (aS l i)≤4294967297:=fun i hi=>by
  have h1:=IJ hs i hi
  have h2:=Nat.mul_le_mul_right (4*N+2) hi
  omega
 have hend:=li (aS l l.length) bB (by have:=hszA _ (Nat.le_refl _); omega) (by omega)
 rw [show aS l l.length*bB=er l from rfl] at hend
 simp only [bA] at hz hhf hend
 rw [bA]
 refine Pg Tryz.func61 rfl [.cell 2 27] rfl (by simp -implicitDefEqProofs [go_sem,gK]) ?_
 unfold pL at *
 simp -implicitDefEqProofs [go_sem]
 refine ac hz ?_
 simp -implicitDefEqProofs [go_sem]
 have hlw:IntKind.i64.wrap (l.length:Int)=l.length:=bS (by omega)
 refine ap 2 (α:={i:Nat // i≤l.length}) (fun i=>[(0,.sl 6 false (l.map pA)),(2,.ptr 0 0 0),(3,.ptr 1 0 0),(7,.sl 6 false (l.map pA)),(8,.int .i64 l.length),(9,.int .i64 i.1)])
  (fun i=>[(0,.live 3 [.agg [.bool false,.sl 0 true [],.sl 0 true []]]),(1,.live 3 [.agg (rC (aS l i.1))])]) (fun i=>l.length-i.1) ⟨0,Nat.zero_le _⟩ [] (by simp) (fun _ _ _ _ h=>h) (by omega) (by simp -implicitDefEqProofs [go_sem,hlw]) (by simp -implicitDefEqProofs [go_sem,aS]) fun ⟨i,hi⟩=>?_
 simp -implicitDefEqProofs [go_sem]
 refine ⟨fun h5=>?_,fun h5=>?_⟩
 ·have es:=wS i (by omega)
  have hlt:(i+1)%l.length<l.length:=Nat.mod_lt _ (by omega)
  have e1:=eV (l:=l) (i:=i) h5
  have e2:=eV hlt
  have n1:=hnx i h5
  have z1:=hs _ (List.getElem_mem h5)
  have z2:=hs _ (List.getElem_mem hlt)
  have c1:=J7 l[i] l[(i+1)%l.length] (by omega) (by omega)
  have z3:=PQ.sz_cross l[i] l[(i+1)%l.length]
  have z4:=hszA i (by omega)
  have a1:=Il (aS l i) (l[i].cross l[(i+1)%l.length]) (by omega) (by omega)
  have ea:aS l i+l[i].cross l[(i+1)%l.length]=aS l (i+1):=by simp only [aS]; rw [hgt i h5,hgt _ hlt]
  rw [ea] at a1
  generalize l[i].cross l[(i+1)%l.length]=cr at *
  generalize l[(i+1)%l.length]=p2 at *
  generalize l[i]=p1 at *
  generalize (i+1)%l.length=j at *
  simp only [aQ,bA] at c1 a1 n1
  simp -implicitDefEqProofs [go_sem,e1]
  refine ⟨by omega,aa n1 ?_⟩
  simp -implicitDefEqProofs [go_sem,e2]
  refine ⟨by omega,aa c1 ?_⟩
  simp -implicitDefEqProofs [go_sem]
  refine aa a1 ?_
  simp -implicitDefEqProofs [go_sem,es]
  refine ae ⟨i+1,h5⟩ (by simp only; omega) [] (by simp) (fun _ _ _ _ h=>h) (by simp) (by simp -implicitDefEqProofs [go_sem,es]) (by simp -implicitDefEqProofs [go_sem])
 ·have hil:i=l.length:=by omega
  subst hil
  simp -implicitDefEqProofs [go_sem]
  refine aa hhf ?_
  simp -implicitDefEqProofs [go_sem]
  refine aa hend ?_
  simp -implicitDefEqProofs [go_sem,aL]
theorem FI (a b c:PQ):PQ.orient a b c≤1:=by
 unfold PQ.orient aM ik
 split<;>(try split)<;>omega
theorem yM (l:List PQ) (hl:3≤l.length) (hl2:l.length≤1048576) (hs:∀p∈l,p.sz≤1073741824)
 (hne:∀i k (hi:i<l.length) (hk:k<l.length),k≠i→l[i]≠l[k])
 (ho:∀i k (hi:i<l.length) (hk:k<l.length),0≤PQ.orient l[i] (l[(i+1)%l.length]'(Nat.mod_lt _ (by omega))) l[k])
 (h1:0<PQ.orient (l[0]'(by omega)) (l[1]'(by omega)) (l[2]'(by omega))):ag Tryz.prog 60 [pL l] (.bool true):=by
 have hnx:=fun i hi=>nw l i (by omega) (by omega) hi
 have hlw:IntKind.i64.wrap (l.length:Int)=l.length:=bS (by omega)
 have hl3:¬(l.length:Int)<3:=by omega
 refine Pg Tryz.func60 rfl [.tmp 2] rfl (by simp -implicitDefEqProofs [go_sem]) ?_
 unfold pL at *
 simp -implicitDefEqProofs [go_sem,hl3]
 refine ap 0 (α:={s:Nat×Int // s.1≤l.length∧0≤s.2∧s.2≤s.1*1048576∧(0<s.1→1≤s.2)}) (fun s=>[(0,.sl 6 false (l.map pA)),(3,.int .i64 s.1.2),(13,.sl 6 false (l.map pA)),(14,.int .i64 l.length),(15,.int .i64 s.1.1)])
  (fun s=>[]) (fun s=>l.length-s.1.1) ⟨(0,0),by simp⟩ [] (by simp) (fun _ _ _ _ h=>h) (by omega) (by simp -implicitDefEqProofs [go_sem,hlw]) (by simp -implicitDefEqProofs [go_sem]) fun ⟨⟨i,T⟩,hi,t0,t1,t2⟩=>?_
 simp only at hi t0 t1 t2
 simp -implicitDefEqProofs [go_sem]
 refine ⟨fun h5=>?_,fun h5=>?_⟩
 ·have es:=wS i (by omega)
  have hlt:(i+1)%l.length<l.length:=Nat.mod_lt _ (by omega)
  have e1:=eV (l:=l) (i:=i) h5
  have e2:=eV hlt
  have n1:=hnx i h5
  have hro:=bW l[i]
  have hrq:=bW l[(i+1)%l.length]
  have hor:∀k (hk:k<l.length),0≤PQ.orient l[i] (l[(i+1)%l.length]'hlt) l[k]:=fun k hk=>ho i k h5 hk
  have hcn:=fun k (hk:k<l.length)=>Ax l[i] l[(i+1)%l.length] l[k] (hs _ (List.getElem_mem h5)) (hs _ (List.getElem_mem hlt)) (hs _ (List.getElem_mem hk))
  have hsm:=fun k (hk:k<l.length)=>jJ l[i] l[k] (by have:=hs _ (List.getElem_mem h5); omega) (by have:=hs _ (List.getElem_mem hk); omega)
  have hn2:=fun k (hk:k<l.length)=>hne i k h5 hk
  have hi0:i=0→∀h2:2<l.length,0<PQ.orient l[i] l[(i+1)%l.length] l[2]:=fun hi0 h2=>by
   subst hi0
   have:(0+1)%l.length=1:=Nat.mod_eq_of_lt (by omega)
   simp only [this]
   exact h1
  simp only [aQ] at hcn hsm
  generalize l[(i+1)%l.length]=q at *
  generalize l[i]=p at *
  generalize (i+1)%l.length=j at *
  simp -implicitDefEqProofs [go_sem,e1]
  refine ⟨by omega,ac n1 ?_⟩
  simp -implicitDefEqProofs [go_sem,e2]
  refine ⟨by omega,?_⟩
  refine ap 2 (α:={s:Nat×Int // s.1≤l.length∧0≤s.2∧s.2≤i*1048576+s.1∧(0<i∨2<s.1→1≤s.2)}) (fun s=>[(0,.sl 6 false (l.map pA)),(3,.int .i64 s.1.2),(4,.int .i64 i),(5,.ptr 0 0 0),(6,.ptr 1 0 0),(13,.sl 6 false (l.map pA)),(14,.int .i64 l.length),(15,.int .i64 i),(26,.sl 6 false (l.map pA)),(27,.int .i64 l.length),(28,.int .i64 s.1.1)])
   (fun s=>[(0,.live 6 [.agg (pC p)]),(1,.live 6 [.agg (pC q)])]) (fun s=>l.length-s.1.1) ⟨(0,T),by simp only; omega⟩ [] (by simp) (fun _ _ _ _ h=>h) (by omega) (by simp -implicitDefEqProofs [go_sem,hlw]) (by simp -implicitDefEqProofs [go_sem]) fun ⟨⟨k,U⟩,hk,u0,u1,u2⟩=>?_
  simp only at hk u0 u1 u2
  simp -implicitDefEqProofs [go_sem]
  refine ⟨fun h6=>?_,fun h6=>?_⟩
  ·have ek:=wS k (by omega)
   have f1:=eV (l:=l) (i:=k) h6
   have f2:=hcn k h6
   have f3:=hsm k h6
   have f4:=hor k h6
   have f5:=FI p q l[k]
   have f6:=hn2 k h6
   have f7:i=0→k=2→1≤PQ.orient p q l[k]:=fun a b=>by subst b; have:=hi0 a h6; omega
   generalize l[k]=r at *
   generalize PQ.orient p q r=O at *
   have eu:IntKind.i64.wrap (U+O)=U+O:=bS (by omega)
   have hO:¬O<0:=by omega
   have hst:k+1≤l.length∧0≤U+O∧U+O≤i*1048576+(k+1:Nat)∧(0<i∨2<k+1→1≤U+O):=by
    refine ⟨h6,by omega,by omega,fun h=>?_⟩
    by_cases ha:0<i∨2<k
    ·have:=u2 ha; omega
    ·have:=f7 (by omega) (by omega); omega
   by_cases hki:k=i
   ·subst hki
    simp -implicitDefEqProofs [go_sem,f1]
    refine ⟨by omega,ac f2 ?_⟩
    simp -implicitDefEqProofs [go_sem,hO,eu,ek]
    refine ae ⟨(k+1,U+O),hst⟩ (by simp only; omega) [] (by simp) (fun _ _ _ _ h=>h) (by simp) (by simp -implicitDefEqProofs [go_sem,ek]) (by simp -implicitDefEqProofs [go_sem])
   ·have hki':¬(k:Int)=i:=by omega
    have f6:=f6 hki
    simp -implicitDefEqProofs [go_sem,f1,hki']
    refine ⟨by omega,ac f3 ?_⟩
    simp -implicitDefEqProofs [go_sem,f6]
    refine ac f2 ?_
    simp -implicitDefEqProofs [go_sem,hO,eu,ek]
    refine ae ⟨(k+1,U+O),hst⟩ (by simp only; omega) [] (by simp) (fun _ _ _ _ h=>h) (by simp) (by simp -implicitDefEqProofs [go_sem,ek]) (by simp -implicitDefEqProofs [go_sem])
  ·simp -implicitDefEqProofs [go_sem,es]
   refine ae ⟨(i+1,U),by refine ⟨h5,u0,?_,fun _=>u2 (.inr (by omega))⟩; simp only; omega⟩ (by simp only; omega) [] (by simp) (fun _ _ _ _ h=>h) (by simp) (by simp -implicitDefEqProofs [go_sem,es]) (by simp -implicitDefEqProofs [go_sem])
 ·have:0<T:=by have:=t2 (by omega); omega
  simp -implicitDefEqProofs [go_sem,this]
def dR (h:Rat) (m k:Nat):PQ:=(bN (k / m) (uP m (k%m))).scale h
theorem su {c:PQ} {h:Rat} {m k:Nat} (hm:1≤m) (hk:k<4*m):(dL c h m 4)[k]'(by rw [da]; omega)=c.add (dR h m k):=by
 rw [sv _ _ _ hm]; rfl
theorem zero_add (c r:PQ):((⟨0,0⟩:PQ).add r).add c=c.add r:=by
 unfold PQ.add
 exact PQ.ext (by simp only; grind) (by simp only; grind)
theorem OV {h:Rat} {k i:Nat} (hk:1≤k) (hk2:k≤4096):(dR h k i).sz≤16+sz h:=by
 have h1:=Ba (m:=k) (i:=i%k) hk hk2 (Nat.le_of_lt (Nat.mod_lt _ (by omega)))
 have h2:=pm (i / k) (uP k (i%k))
 have h3:=PQ.sz_scale (bN (i / k) (uP k (i%k))) h
 unfold dR; omega
theorem EH (x:Rat):bJ x x=0:=by
 have a := @dJ x x; have b := @iZ x x
 have:¬bJ x x<0:=fun h=>by have:=a.1 h; grind
 have:¬0<bJ x x:=fun h=>by have:=b.1 h; grind
 omega
theorem GQ {c:PQ} {h:Rat} {m:Nat} (hm:1≤m) (hm2:m≤4096):∀p∈dL c h m 4,p.sz≤c.sz+sz h+17:=fun p hp=>by
 obtain ⟨k,hk,rfl⟩:=List.mem_iff_getElem.1 hp
 rw [da] at hk
 rw [su hm hk]
 have:=PQ.sz_add c (dR h m k)
 have:=OV (h:=h) (k:=m) (i:=k) hm hm2
 omega
def PQ.neg (p:PQ):PQ:=⟨-p.x,-p.y⟩
def cj (v:PQ) (h:Rat) (k:Nat):PQ:=v.rot.scale (cV (h*h / v.dot v) k)
def jk (n:PQ) (h tol:Rat):Prop:=0<n.dot n∧(h-tol≤0∨(h-tol)*(h-tol)≤n.dot n)
instance (n:PQ) (h tol:Rat):Decidable (jk n h tol):=inferInstanceAs (Decidable (_∧_))
def ul (v:PQ) (h tol:Rat):Nat→Nat→Option (PQ×Nat)
 | 0,_=>none
 | f+1,k=>if jk (cj v h k) h tol then some (cj v h k,k) else ul v h tol f (k+1)
def dt (v:PQ) (h tol:Rat):Option (PQ×Nat):=ul v h tol 4097 0
theorem pS {v:PQ} {h tol:Rat} {n:PQ} {j:Nat}:∀f k,ul v h tol f k=some (n,j)→n=cj v h j∧jk n h tol∧k≤j∧j<k+f
 | 0,_,e=>by simp [ul] at e
 | f+1,k,e=>by
  unfold ul at e
  split at e
  ·rename_i he
   injection e with e
   injection e with e1 e2
   subst e1 e2
   exact ⟨rfl,he,by omega,by omega⟩
  ·have:=pS f (k+1) e
   exact ⟨this.1,this.2.1,by omega,by omega⟩
theorem mq {v:PQ} (h:v≠⟨0,0⟩):0<v.dot v:=by
 have h1:=cQ v.x; have h2:=cQ v.y
 have:v.dot v≠0:=fun h0=>h (by
  have:=PQ.dot0 h0
  exact PQ.ext this.1 this.2)
 have:0≤v.dot v:=by unfold PQ.dot; grind
 grind
def iq (x g m:Rat):Prop:=if 0<g then 0≤x∧g*g*m≤x*x else 0≤x∨x*x≤g*g*m
instance (x g m:Rat):Decidable (iq x g m):=by unfold iq; split<;>infer_instance
def fe (u v:PQ) (m:Rat):Prop:=u≠⟨0,0⟩∧v≠⟨0,0⟩∧0<m∧iq (u.dot v) (2 / (m*m)-1) (u.dot u*v.dot v)
instance (u v:PQ) (m:Rat):Decidable (fe u v m):=inferInstanceAs (Decidable (_∧_))
def au (n:PQ) (left:Bool):PQ:=if left then n else n.neg
def mU (s ou ov:PQ) (h:Rat) (k:Nat):Option Rat :=
 let x:=s.dot ou; let y:=s.dot ov
 let r:=cV (h*h*ou.dot ou / (x*x)) k; let t:=cV (h*h*ov.dot ov / (y*y)) k
 if 0<x then (if 0<y then some (if t<r then t else r) else some r) else if 0<y then some t else none
def pn (u v:PQ) (h tol:Rat) (left:Bool) (k:Nat):Option (List PQ) :=
 let a:=au (cj u h k) left; let b:=au (cj v h k) left
 let ou:=au u.rot left; let ov:=au v.rot left
 if a=⟨0,0⟩∨b=⟨0,0⟩ then none else
 match mU (a.add b) ou ov h k with
 | none=>none
 | some r=>if r<bB then none else
  let t:=(a.add b).scale r
  if iq (a.dot ou) (h-tol) (ou.dot ou)∧iq (t.dot ou) (h-tol) (ou.dot ou)∧iq (b.dot ov) (h-tol) (ov.dot ov)∧iq (t.dot ov) (h-tol) (ov.dot ov) then some [a,t,b] else none
def iL (u v:PQ) (h tol:Rat) (left:Bool):Nat→Nat→Option (List PQ)
 | 0,_=>none
 | f+1,k=>match pn u v h tol left k with
  | some l=>some l
  | none=>iL u v h tol left f (k+1)
def lC (u v:PQ) (h tol:Rat) (left:Bool):Option (List PQ) :=
 match dt u h tol,dt v h tol with
 | some a,some b=>some [au a.1 left,au b.1 left]
 | _,_=>none
def PR.cs (p:PR):List AV:=[.bool p.x.neg,nA p.x.p,nA p.x.q,.bool p.y.neg,nA p.y.p,nA p.y.q]
theorem PR.av_cs (p:PR):p.av = .agg p.cs:=rfl
theorem PR.ro_cs (p:PR):roL p.cs:=by unfold PR.cs; simp -implicitDefEqProofs [go_sem]
def J8:PR:=⟨vW,vW⟩
theorem xW {n:Nat}:J8.In n:=⟨x9,x9⟩
theorem rI:J8.val=⟨0,0⟩:=by
 have:vW.val=0:=by unfold RQ.val RQ.num vW; simp [eD,o8,Rat.zero_mkRat]
 unfold PR.val J8; rw [this]
theorem D4:Wk pZ J8.av:=by
 unfold pZ PR.av J8 vW
 exact Wk.agg (.cons (Wk.refl _) (.cons (Wk.nil 0 1 true) (.cons (Wk.nil 0 1 true) (.cons (Wk.refl _) (.cons (Wk.nil 0 1 true) (.cons (Wk.nil 0 1 true) .nil))))))
theorem PY (p:PR) (hp:p.In 17179869184):ag Tryz.prog 125 [p.av,pZ] (pA p.val):=by
 have h:=cL p J8 hp xW
 rw [rI] at h
 have e:p.val.sub ⟨0,0⟩=p.val:=PQ.ext (by unfold PQ.sub; simp only; grind) (by unfold PQ.sub; simp only; grind)
 rw [e] at h
 exact h.args (.cons (Wk.refl _) (.cons D4 .nil))
theorem KW (p:PR) (hp:p.In 17179869184):ag Tryz.prog 97 [p.av,pZ] (pA p.val):=by
 have h:=dY p J8 hp xW
 rw [rI] at h
 have e:p.val.add ⟨0,0⟩=p.val:=PQ.ext (by unfold PQ.add; simp only; grind) (by unfold PQ.add; simp only; grind)
 rw [e] at h
 exact h.args (.cons (Wk.refl _) (.cons D4 .nil))
theorem CH (p:PR) (hp:p.In 17179869184):ag Tryz.prog 33 [p.av,pZ] (.bool (decide (p.val=⟨0,0⟩))):=by
 have h:=nQ p J8 hp xW
 rw [rI] at h
 exact h.args (.cons (Wk.refl _) (.cons D4 .nil))
theorem l5 (p:PR) (hp:p.In 17179869184):ag Tryz.prog 280 [p.av] (.bool (decide (p.val=⟨0,0⟩))):=by
 have h:=CH p hp
 unfold pZ at h
 rw [PR.av_cs] at *
 have hc:p.cs.length=6:=rfl
 have hr:=p.ro_cs
 have hc2:p.cs.take 6=p.cs:=rfl
 have hc3:p.cs.drop 6=[]:=rfl
 generalize p.cs=cs at *
 refine Pg Tryz.func280 rfl [.tmp 2] rfl (by simp -implicitDefEqProofs [go_sem]) ?_
 simp -implicitDefEqProofs [go_sem,hc,hc2,hc3]
 refine ah _ h (by simp [go_sem,hr]) ?_
 simp -implicitDefEqProofs [go_sem]
theorem pW (p:PR) (hp:p.In 4294967296):ag Tryz.prog 284 [p.av] (pA p.val.rot):=by
 have h1:=wb p.y hp.y.sm.ok
 have hsy:sz (-p.y.val)≤4294967296:=by rw [sz_neg]; exact hp.y.sz
 have h2:=PY ⟨qc (-p.y.val),p.x⟩ ⟨(fL hsy).mono,hp.x.mono⟩
 have e:PR.val ⟨qc (-p.y.val),p.x⟩=p.val.rot:=by unfold PR.val PQ.rot; simp only [br]
 rw [e] at h2
 generalize -p.y.val=y at *
 generalize p.val.rot=r at *
 unfold pZ at h2
 refine Pg Tryz.func284 rfl [.cell 2 72] rfl (iU _) ?_
 rw [bA] at h1
 rw [aQ] at *
 unfold PR.av at *
 unfold RQ.av at h1
 simp -implicitDefEqProofs [go_sem]
 refine aa h1 ?_
 unfold rC
 simp -implicitDefEqProofs [go_sem]
 refine aa h2 ?_
 simp -implicitDefEqProofs [go_sem,aL]
theorem Ij {v:PQ} (h:Rat):0≤h*h / v.dot v:=by
 rw [Rat.div_def]
 rcases Classical.em (v.dot v=0) with e|e
 ·rw [e,Rat.inv_zero,Rat.mul_zero]; exact Rat.le_refl
 ·have:0≤v.dot v:=PQ.dot_nn v
  exact Rat.mul_nonneg (cQ h) (Rat.le_of_lt (Rat.inv_pos.2 (by grind)))
theorem BI {v:PQ} (h:v≠⟨0,0⟩):v.dot v≠0:=fun h0=>h (by
 have:=PQ.dot0 h0
 exact PQ.ext this.1 this.2)
theorem C3 {v:PQ} {h:Rat}:sz (h*h / v.dot v)≤2*sz h+4*v.sz+1:=by
 have h1:=aJ h h
 have h2:=PQ.sz_dot v v
 have h3:=iS (h*h) (v.dot v)
 omega
theorem lc {v:PQ} {h:Rat} {k:Nat} (hk:k≤4096):(cj v h k).sz≤5*v.sz+2*sz h+261:=by
 unfold cj
 have h1:=PQ.sz_scale v.rot (cV (h*h / v.dot v) k)
 have h2:=PQ.sz_rot v
 have h3:=pl (q:=h*h / v.dot v) hk
 have h4:=C3 (v:=v) (h:=h)
 omega
theorem GC (v:PR) (h:Rat) (k:Nat) (hk:k≤4096) (hv:v.In 1000) (hne:v.val≠⟨0,0⟩) (hh:sz h≤1000) (c d:Int) (hd:IntKind.i64.wrap (c+1)=d) :
 IZ Tryz.prog 281 [.ptr 0 0 0,.int .i64 k] 10 [.agg (.int .i64 c::(v.cs++rC h))] fun r l'=>r = .tup [pA (cj v.val h k),.int .i64 0]∧l'=[.agg (.int .i64 d::(v.cs++rC h))]:=by
 refine Cg Tryz.func281 rfl [.cell 4 72,.tmp 5] rfl ?_
 have hvs:=hv.sz
 have h1:=li h h (by omega) (by omega)
 have s1:=aJ h h
 have h2:=je v v hv.mono hv.mono
 have s2:=PQ.sz_dot v.val v.val
 have h3:=AF (h*h) (v.val.dot v.val) (by omega) (by omega) (BI hne)
 have s3:=C3 (v:=v.val) (h:=h)
 have h4:=wa (h*h / v.val.dot v.val) k hk (Ij h) (by omega)
 have s4:=pl (q:=h*h / v.val.dot v.val) hk
 have h5:=pW v hv.mono
 have s5:=PQ.sz_rot v.val
 have h6:=xX v.val.rot (cV (h*h / v.val.dot v.val) k) (by omega) (by omega)
 unfold cj
 generalize v.val.rot.scale (cV (h*h / v.val.dot v.val) k)=n at *
 generalize cV (h*h / v.val.dot v.val) k=r at *
 generalize h*h / v.val.dot v.val=q at *
 generalize v.val.dot v.val=vv at *
 generalize v.val.rot=rt at *
 generalize h*h=hh' at *
 have w1:v.cs.length=6:=rfl
 have w2:=v.ro_cs
 have w3:∀l,(v.cs++l).take 6=v.cs:=fun l=>by rw [List.take_append_of_le_length (by rw [w1]; omega)]; exact List.take_of_length_le (by rw [w1]; omega)
 have w4:∀l,(v.cs++l).drop 6=l:=fun l=>by rw [List.drop_append_of_le_length (by rw [w1]; omega),List.drop_of_length_le (by rw [w1]; omega)]; rfl
 have w5:v.cs.take 6=v.cs:=List.take_of_length_le (by rw [w1]; omega)
 have w6:v.cs.drop 6=[]:=List.drop_of_length_le (by rw [w1]; omega)
 simp only [PR.av_cs,bA,aQ] at *
 generalize v.cs=cs at *
 simp -implicitDefEqProofs [go_sem,w1,w3,w4,w5,w6]
 refine Dk (sz:=10) (rest:=cs++rC h) hd (by simp -implicitDefEqProofs [go_sem]) ?_
 simp -implicitDefEqProofs [go_sem,w1,w3,w4,w5,w6]
 refine aa h1 ?_
 simp -implicitDefEqProofs [go_sem,w1,w3,w4,w5,w6]
 refine ao _ h2 (by simp [go_sem,w2]) ?_
 simp -implicitDefEqProofs [go_sem,w1,w3,w4,w5,w6]
 refine aa h3 ?_
 simp -implicitDefEqProofs [go_sem,w1,w3,w4,w5,w6]
 refine ac h4 ?_
 simp -implicitDefEqProofs [go_sem,w1,w3,w4,w5,w6]
 refine ao _ h5 (by simp [go_sem,w2]) ?_
 simp -implicitDefEqProofs [go_sem,w1,w3,w4,w5,w6]
 refine aa h6 ?_
 simp -implicitDefEqProofs [go_sem,aL,w2,gK,bW]
 exact aF.2 ⟨w2,gK h⟩
theorem BP {n:PQ} {h tol:Rat}:jk n h tol↔n≠⟨0,0⟩∧(h-tol≤0∨(h-tol)*(h-tol)≤n.dot n):=by
 unfold jk
 refine ⟨fun ⟨a,b⟩=>⟨fun e=>?_,b⟩,fun ⟨a,b⟩=>⟨mq a,b⟩⟩
 subst e
 have:PQ.dot ⟨0,0⟩ ⟨0,0⟩=0:=by unfold PQ.dot; grind
 rw [this] at a
 exact absurd a (by decide)
theorem vn {v:PQ} {h tol:Rat} {k:Nat} (hk:k≤4096):ul v h tol (4097-k) k=if jk (cj v h k) h tol then some (cj v h k,k) else ul v h tol (4097-(k+1)) (k+1):=by
 rw [show 4097-k=(4097-(k+1))+1 by omega]
 rfl
theorem iX {x y:Rat}:0≤bJ x y↔y≤x:=by
 have := @dJ x y
 constructor
 ·intro h
  have:¬x<y:=fun h2=>by have:=this.2 h2; omega
  grind
 ·intro h
  have:¬bJ x y<0:=fun h2=>by have:=this.1 h2; grind
  omega
def B0 (o:Option (PQ×Nat)):AV:=match o with
 | some (n,k) => .tup [pA n,.int .i64 k,.int .i64 0]
 | none => .tup [pZ,.int .i64 0,.int .i64 24]
theorem P5:ro pZ:=by unfold pZ; simp -implicitDefEqProofs [go_sem]
theorem Kf (o:Option (PQ×Nat)):ro (B0 o):=by
 unfold B0
 split
 ·simp only [ro,roL]; exact ⟨iU _,trivial,trivial,trivial⟩
 ·simp only [ro,roL]; exact ⟨P5,trivial,trivial,trivial⟩
theorem j8 (v:PR) (h:Rat) (tol:RQ) (hv:v.In 1000) (hne:v.val≠⟨0,0⟩) (hh:sz h≤1000) (h0:0<h) (ht:tol.In 1000) (ht0:0<tol.val) :
 ag Tryz.prog 237 [v.av,rA h,tol.av] (B0 (dt v.val h tol.val)):=by
 refine ag.of_ca (Kf _) (Cg Tryz.func237 rfl [.cell 6 72,.tmp 7,.tmp 8] rfl ?_)
 have hvs:=hv.sz
 have hts:=ht.sz
 have g1:=l5 v hv.mono
 have g2:=jx h (by omega)
 have g3:=bI tol ht.sm.ok
 have g4:=ij (qc h) tol (c_ (by omega)) ht.sm
 rw [br] at g4
 change ag _ _ [rA h,_] _ at g4
 have z2:¬aM h≤0:=fun hh=>absurd (bR.1 hh) (by grind)
 have z3:¬aM tol.val≤0:=fun hh=>absurd (bR.1 hh) (by grind)
 obtain ⟨le,hle⟩:∃le,le=h-tol.val:=⟨_,rfl⟩
 have sle:=sz_sub h tol.val
 have g5:=jx le (by rw [hle]; omega)
 have g6:=li le le (by rw [hle]; omega) (by rw [hle]; omega)
 have s6:=aJ le le
 rw [←hle] at g4 sle
 have w1:v.cs.length=6:=rfl
 have w2:=v.ro_cs
 have w5:v.cs.take 6=v.cs:=List.take_of_length_le (by rw [w1]; omega)
 have w6:v.cs.drop 6=[]:=List.drop_of_length_le (by rw [w1]; omega)
 obtain ⟨ct,hct,t1,t2,t3,t4⟩:∃ct,tol.av = .agg ct∧ct.length=3∧ct.take 3=ct∧ct.drop 3=[]∧roL ct:=⟨_,rfl,rfl,rfl,rfl,gy tol⟩
 have hat:=fun (k:Nat) (hk:k≤4096)=>GC v h k hk hv hne hh k (k+1:Nat) (by rw [bS (by omega)]; omega)
 rw [show decide (v.val=⟨0,0⟩)=false by simp [hne]] at g1
 simp only [PR.av_cs] at *
 generalize v.cs=cs at *
 rw [hct] at g3 g4 ⊢
 simp only [bA] at g2 g4 g5 g6 ⊢
 have w7:∀a b c,List.drop 9 (cs++[a,b,c])=([]:List AV):=fun a b c=>List.drop_of_length_le (by simp [w1])
 simp -implicitDefEqProofs [go_sem,w1,w5,w6,t1,t2,t3]
 refine ah _ g1 (by simp [go_sem,w2]) ?_
 simp -implicitDefEqProofs [go_sem,w1,w5,w6,t1,t2,t3]
 refine ac g2 ?_
 simp -implicitDefEqProofs [go_sem,w1,w5,w6,t1,t2,t3,z2]
 refine ah _ g3 (by simp [go_sem,t4]) ?_
 simp -implicitDefEqProofs [go_sem,w1,w5,w6,t1,t2,t3,z3]
 refine ah _ g4 (by simp [go_sem,gK,t4]) ?_
 simp -implicitDefEqProofs [go_sem,w1,w5,w6,t1,t2,t3,w7]
 have rR:=aF.2 ⟨w2,gK h⟩
 have u1:=(renL_ro (nm []) _ w2).symm
 have u2:=cloL_ro (n:=6) _ w2
 refine ap 6 (α:={k:Nat // k≤4097∧dt v.val h tol.val=ul v.val h tol.val (4097-k) k}) (fun k=>[(6,.ptr 3 0 0),(9,.ptr 4 0 0),(10,.ptr 5 0 0),(35,.int .i64 k.1)])
  (fun k=>[(3,.live 6 [pZ]),(4,.live 10 [.agg (.int .i64 k.1::(cs++rC h))]),(5,.live 3 [.agg (rC le)])]) (fun k=>4097-k.1) ⟨0,by omega,rfl⟩ [] (by simp) (fun _ _ _ _ h=>h) (by omega) (by simp -implicitDefEqProofs [go_sem]) (by simp -implicitDefEqProofs [go_sem,pZ]; exact ⟨u1,u2⟩) fun ⟨k,hk,hfk⟩=>?_
 simp -implicitDefEqProofs [go_sem]
 refine ⟨fun h4=>?_,fun h4=>?_⟩
 ·have hk':k≤4096:=by omega
  have ek:=wS k (by omega)
  have hfs:=vn (v:=v.val) (h:=h) (tol:=tol.val) hk'
  have ha:=hat k hk'
  have so:=lc (v:=v.val) (h:=h) hk'
  have en:=BP (n:=cj v.val h k) (h:=h) (tol:=tol.val)
  rw [←hle] at en
  generalize cj v.val h k=n at *
  have g7:=l5 (pc n) (be (by omega))
  rw [aO] at g7
  change ag _ _ [pA n] _ at g7
  have g8:=tF n n (by omega) (by omega)
  have s8:=PQ.sz_dot n n
  have g9:=oU (n.dot n) (le*le) (by omega) (by omega)
  have z5:=bR (x:=le)
  have z9:=iX (x:=n.dot n) (y:=le*le)
  generalize bJ (n.dot n) (le*le)=cm at *
  generalize n.dot n=nn at *
  generalize le*le=ll at *
  simp only [bA,aQ] at *
  refine mB 4 ha (by simp -implicitDefEqProofs [go_sem]) (by simp -implicitDefEqProofs [go_sem]) (by simp -implicitDefEqProofs [go_sem]; exact rR) (by simp -implicitDefEqProofs [go_sem]) fun r0 l' ⟨q1,q2⟩=>?_
  subst q1 q2
  simp -implicitDefEqProofs [go_sem]
  have again:¬jk n h tol.val→dt v.val h tol.val=ul v.val h tol.val (4097-(k+1)) (k+1):=fun hn=>by rw [hfk,hfs,if_neg hn]
  have done:jk n h tol.val→B0 (dt v.val h tol.val) = .tup [.agg (pC n),.int .i64 k,.int .i64 0]:=fun hn=>by rw [hfk,hfs,if_pos hn]; rfl
  by_cases hn:n=⟨0,0⟩
  ·rw [decide_eq_true hn] at g7
   refine aa g7 ?_
   simp -implicitDefEqProofs [go_sem,ek]
   exact ae ⟨k+1,by omega,again (fun h=>(en.1 h).1 hn)⟩ (by simp only; omega) [] (by simp) (fun _ _ _ _ h=>h) (by simp) (by simp -implicitDefEqProofs [go_sem]) (by simp -implicitDefEqProofs [go_sem,pZ]; exact ⟨u1,u2⟩)
  ·rw [decide_eq_false hn] at g7
   refine aa g7 ?_
   simp -implicitDefEqProofs [go_sem]
   refine aa g5 ?_
   by_cases hl:le≤0
   ·simp -implicitDefEqProofs [go_sem,z5.2 hl]
    rw [done (en.2 ⟨hn,.inl hl⟩)]
    simp -implicitDefEqProofs [go_sem,aL,bW,pZ]
    exact Wk.refl _
   ·have hl':¬aM le≤0:=fun hh=>hl (z5.1 hh)
    simp -implicitDefEqProofs [go_sem,hl']
    refine aa g8 ?_
    simp -implicitDefEqProofs [go_sem]
    refine aa g6 ?_
    simp -implicitDefEqProofs [go_sem]
    refine aa g9 ?_
    by_cases hc:ll≤nn
    ·simp -implicitDefEqProofs [go_sem,z9.2 hc]
     rw [done (en.2 ⟨hn,.inr hc⟩)]
     simp -implicitDefEqProofs [go_sem,aL,bW,pZ]
     exact Wk.refl _
    ·have hc':¬0≤cm:=fun hh=>hc (z9.1 hh)
     simp -implicitDefEqProofs [go_sem,hc',ek]
     exact ae ⟨k+1,by omega,again (fun h=>(en.1 h).2.elim hl hc)⟩ (by simp only; omega) [] (by simp) (fun _ _ _ _ h=>h) (by simp) (by simp -implicitDefEqProofs [go_sem]) (by simp -implicitDefEqProofs [go_sem,pZ]; exact ⟨u1,u2⟩)
 ·have hk':k=4097:=by omega
  subst hk'
  have:dt v.val h tol.val=none:=hfk
  rw [this]
  simp -implicitDefEqProofs [go_sem,aL,pZ,B0]
  exact Wk.refl _
theorem gq (p:PR) (hp:p.In 17179869184):ag Tryz.prog 238 [p.av] (.bool (decide (p.val=⟨0,0⟩))):=by
 have h:=CH p hp
 unfold pZ at h
 rw [PR.av_cs] at *
 have hc:p.cs.length=6:=rfl
 have hr:=p.ro_cs
 have hc2:p.cs.take 6=p.cs:=rfl
 have hc3:p.cs.drop 6=[]:=rfl
 generalize p.cs=cs at *
 refine Pg Tryz.func238 rfl [.tmp 2] rfl (by simp -implicitDefEqProofs [go_sem]) ?_
 simp -implicitDefEqProofs [go_sem,hc,hc2,hc3]
 refine ah _ h (by simp [go_sem,hr]) ?_
 simp -implicitDefEqProofs [go_sem]
theorem zV (p:PQ) (hp:p.sz≤17179869184):ag Tryz.prog 238 [pA p] (.bool (decide (p=⟨0,0⟩))):=by
 have:=gq (pc p) (be hp)
 rw [aO] at this
 exact this
theorem oK (a:RQ) (ha:a.In 17179869184):ag Tryz.prog 285 [a.av] (rA (a.val*a.val)):=by
 have h:=dC a a ha.sm ha.sm
 generalize a.val*a.val=r at *
 rw [bA] at *
 unfold RQ.av at *
 refine Pg Tryz.func285 rfl [.cell 2 27] rfl (by simp -implicitDefEqProofs [go_sem,gK]) ?_
 simp -implicitDefEqProofs [go_sem]
 refine ac h ?_
 simp -implicitDefEqProofs [go_sem,aL]
theorem oL (a:Rat) (ha:sz a≤17179869184):ag Tryz.prog 285 [rA a] (rA (a*a)):=by
 have:=oK (qc a) (fL ha)
 rw [br] at this
 exact this
theorem oh (x g m:Rat) (hx:sz x≤1073741824) (hg:sz g≤1073741824) (hm:sz m≤1073741824):ag Tryz.prog 286 [rA x,rA g,rA m] (.bool (decide (iq x g m))):=by
 have h1:=oL x (by omega)
 have h2:=oL g (by omega)
 have s1:=aJ x x
 have s2:=aJ g g
 have h3:=li (g*g) m (by omega) (by omega)
 have s3:=aJ (g*g) m
 have h4:=jx g (by omega)
 have h5:=jx x (by omega)
 have h6:=oU (x*x) (g*g*m) (by omega) (by omega)
 have z4:=bQ (x:=g)
 have z5:=oY (x:=x)
 have z6:=iX (x:=x*x) (y:=g*g*m)
 have z7:=iu (x:=x*x) (y:=g*g*m)
 obtain ⟨B,hB⟩:∃B:Bool,B=decide (iq x g m):=⟨_,rfl⟩
 have hen:B=true↔(if 0<g then 0≤x∧g*g*m≤x*x else 0≤x∨x*x≤g*g*m):=by rw [hB,decide_eq_true_iff]; exact Iff.rfl
 rw [←hB]
 clear hB
 generalize bJ (x*x) (g*g*m)=cm at *
 generalize x*x=xx at *
 generalize g*g*m=gm at *
 generalize g*g=gg at *
 generalize aM g=sn at *
 generalize aM x=sx at *
 simp only [bA] at *
 refine Pg Tryz.func286 rfl [.tmp 6] rfl (by simp -implicitDefEqProofs [go_sem]) ?_
 simp -implicitDefEqProofs [go_sem]
 refine aa h1 ?_
 simp -implicitDefEqProofs [go_sem]
 refine aa h2 ?_
 simp -implicitDefEqProofs [go_sem]
 refine aa h3 ?_
 simp -implicitDefEqProofs [go_sem]
 refine ac h4 ?_
 by_cases c1:0<g
 ·rw [if_pos c1] at hen
  simp -implicitDefEqProofs [go_sem,z4.2 c1]
  refine ac h5 ?_
  by_cases c2:0≤x
  ·simp -implicitDefEqProofs [go_sem,z5.2 c2]
   refine ac h6 ?_
   by_cases c3:gm≤xx
   ·have hb:=hen.2 ⟨c2,c3⟩
    subst hb
    simp -implicitDefEqProofs [go_sem,z6.2 c3]
   ·have hb:B=false:=Bool.eq_false_iff.2 fun hh=>c3 (hen.1 hh).2
    have c3':¬0≤cm:=fun hh=>c3 (z6.1 hh)
    subst hb
    simp -implicitDefEqProofs [go_sem,c3']
  ·have hb:B=false:=Bool.eq_false_iff.2 fun hh=>c2 (hen.1 hh).1
   have c2':¬0≤sx:=fun hh=>c2 (z5.1 hh)
   subst hb
   simp -implicitDefEqProofs [go_sem,c2']
 ·rw [if_neg c1] at hen
  have c1':¬0<sn:=fun hh=>c1 (z4.1 hh)
  simp -implicitDefEqProofs [go_sem,c1']
  refine ac h5 ?_
  by_cases c2:0≤x
  ·have hb:=hen.2 (.inl c2)
   subst hb
   simp -implicitDefEqProofs [go_sem,z5.2 c2]
  ·have c2':¬0≤sx:=fun hh=>c2 (z5.1 hh)
   simp -implicitDefEqProofs [go_sem,c2']
   refine ac h6 ?_
   by_cases c3:xx≤gm
   ·have hb:=hen.2 (.inr c3)
    subst hb
    simp -implicitDefEqProofs [go_sem,z7.2 c3]
   ·have hb:B=false:=Bool.eq_false_iff.2 fun hh=>(hen.1 hh).elim c2 c3
    have c3':¬cm≤0:=fun hh=>c3 (z7.1 hh)
    subst hb
    simp -implicitDefEqProofs [go_sem,c3']
theorem CY (u v:PR) (m:RQ) (hu:u.In 1000) (hv:v.In 1000) (hm:m.In 1000):ag Tryz.prog 242 [u.av,v.av,m.av] (.bool (decide (fe u.val v.val m.val))):=by
 have zu:=hu.sz
 have zv:=hv.sz
 have zm:=hm.sz
 have g1:=gq u hu.mono
 have g2:=gq v hv.mono
 have g3:=bI m hm.sm.ok
 have z3:=bR (x:=m.val)
 have k1:=bM 2 1 (by omega) (by omega) (by omega)
 have y1:=gD (p:=2) (q:=1) (by omega) (by omega) (by omega)
 rw [show ((2:Int):Rat) / ((1:Int):Rat)=2 by grind] at k1 y1
 have k2:=oK m hm.mono
 have y2:=aJ m.val m.val
 have k3:=fun (h:0<m.val)=>AF 2 (m.val*m.val) (by omega) (by omega) (by have:=Rat.mul_pos h h; grind)
 have y3:=iS 2 (m.val*m.val)
 have k4:=je u v hu.mono hv.mono
 have y4:=PQ.sz_dot u.val v.val
 have k5:=bM 1 1 (by omega) (by omega) (by omega)
 rw [show ((1:Int):Rat) / ((1:Int):Rat)=1 by grind] at k5
 have y5:=eH
 have k6:=K2 (2 / (m.val*m.val)) 1 (by omega) (by omega)
 have y6:=sz_sub (2 / (m.val*m.val)) 1
 have k7:=je u u hu.mono hu.mono
 have y7:=PQ.sz_dot u.val u.val
 have k8:=je v v hv.mono hv.mono
 have y8:=PQ.sz_dot v.val v.val
 have k9:=li (u.val.dot u.val) (v.val.dot v.val) (by omega) (by omega)
 have y9:=aJ (u.val.dot u.val) (v.val.dot v.val)
 have k10:=oh (u.val.dot v.val) (2 / (m.val*m.val)-1) (u.val.dot u.val*v.val.dot v.val) (by omega) (by omega) (by omega)
 obtain ⟨B,hB⟩:∃B:Bool,B=decide (fe u.val v.val m.val):=⟨_,rfl⟩
 have hen:B=true↔(u.val≠⟨0,0⟩∧v.val≠⟨0,0⟩∧0<m.val∧iq (u.val.dot v.val) (2 / (m.val*m.val)-1) (u.val.dot u.val*v.val.dot v.val)):=by rw [hB,decide_eq_true_iff]; exact Iff.rfl
 rw [←hB]
 clear hB
 generalize aM m.val=sm at *
 have c1:u.cs.length=6:=rfl
 have c2:u.cs.take 6=u.cs:=rfl
 have c3:u.cs.drop 6=[]:=rfl
 have c4:=u.ro_cs
 have d1:v.cs.length=6:=rfl
 have d2:v.cs.take 6=v.cs:=rfl
 have d3:v.cs.drop 6=[]:=rfl
 have d4:=v.ro_cs
 obtain ⟨ct,hct,t1,t2,t3,t4⟩:∃ct,m.av = .agg ct∧ct.length=3∧ct.take 3=ct∧ct.drop 3=[]∧roL ct:=⟨_,rfl,rfl,rfl,rfl,gy m⟩
 simp only [PR.av_cs,bA] at *
 rw [hct] at g3 k2 ⊢
 refine Pg Tryz.func242 rfl [.tmp 6] rfl (by simp -implicitDefEqProofs [go_sem]) ?_
 simp -implicitDefEqProofs [go_sem,c1,c2,c3,d1,d2,d3,t1,t2,t3]
 refine ah _ g1 (by simp [go_sem,c4]) ?_
 by_cases a1:u.val=⟨0,0⟩
 ·have hb:B=false:=Bool.eq_false_iff.2 fun hh=>(hen.1 hh).1 a1
  subst hb
  simp -implicitDefEqProofs [go_sem,a1]
 ·simp -implicitDefEqProofs [go_sem,a1,c1,c2,c3,d1,d2,d3,t1,t2,t3]
  refine ah _ g2 (by simp [go_sem,d4]) ?_
  by_cases a2:v.val=⟨0,0⟩
  ·have hb:B=false:=Bool.eq_false_iff.2 fun hh=>(hen.1 hh).2.1 a2
   subst hb
   simp -implicitDefEqProofs [go_sem,a2]
  ·simp -implicitDefEqProofs [go_sem,a2,c1,c2,c3,d1,d2,d3,t1,t2,t3]
   refine ah _ g3 (by simp [go_sem,t4]) ?_
   by_cases a3:m.val≤0
   ·have hb:B=false:=Bool.eq_false_iff.2 fun hh=>absurd (hen.1 hh).2.2.1 (by grind)
    subst hb
    simp -implicitDefEqProofs [go_sem,z3.2 a3]
   ·have a3':¬sm≤0:=fun hh=>a3 (z3.1 hh)
    have k3':=k3 (by grind)
    have hb:B=decide (iq (u.val.dot v.val) (2 / (m.val*m.val)-1) (u.val.dot u.val*v.val.dot v.val)):=by
     rw [Bool.eq_iff_iff,decide_eq_true_iff]
     exact ⟨fun hh=>(hen.1 hh).2.2.2,fun hh=>hen.2 ⟨a1,a2,by grind,hh⟩⟩
    rw [←hb] at k10
    generalize u.val.dot u.val*v.val.dot v.val=w1 at *
    generalize u.val.dot u.val=w2 at *
    generalize v.val.dot v.val=w3 at *
    generalize u.val.dot v.val=w4 at *
    generalize 2 / (m.val*m.val)-1=w5 at *
    generalize 2 / (m.val*m.val)=w6 at *
    generalize m.val*m.val=w7 at *
    simp -implicitDefEqProofs [go_sem,a3',c1,c2,c3,d1,d2,d3,t1,t2,t3]
    refine aa k1 ?_
    simp -implicitDefEqProofs [go_sem,c1,c2,c3,d1,d2,d3,t1,t2,t3]
    refine ao _ k2 (by simp [go_sem,t4]) ?_
    simp -implicitDefEqProofs [go_sem,c1,c2,c3,d1,d2,d3,t1,t2,t3]
    refine aa k3' ?_
    simp -implicitDefEqProofs [go_sem,c1,c2,c3,d1,d2,d3,t1,t2,t3]
    refine ao _ k4 (by simp [go_sem,c4,d4]) ?_
    simp -implicitDefEqProofs [go_sem,c1,c2,c3,d1,d2,d3,t1,t2,t3]
    refine aa k5 ?_
    simp -implicitDefEqProofs [go_sem,c1,c2,c3,d1,d2,d3,t1,t2,t3]
    refine aa k6 ?_
    simp -implicitDefEqProofs [go_sem,c1,c2,c3,d1,d2,d3,t1,t2,t3]
    refine ao _ k7 (by simp [go_sem,c4]) ?_
    simp -implicitDefEqProofs [go_sem,c1,c2,c3,d1,d2,d3,t1,t2,t3]
    refine ao _ k8 (by simp [go_sem,d4]) ?_
    simp -implicitDefEqProofs [go_sem,c1,c2,c3,d1,d2,d3,t1,t2,t3]
    refine aa k9 ?_
    simp -implicitDefEqProofs [go_sem]
    refine aa k10 ?_
    simp -implicitDefEqProofs [go_sem]
theorem kF (p:PQ):ag Tryz.prog 282 [pA p] (pA p):=by
 rw [aQ]
 refine Pg Tryz.func282 rfl [.cell 2 72] rfl (by simp -implicitDefEqProofs [go_sem,bW]) ?_
 simp -implicitDefEqProofs [go_sem,aL]
theorem PQ.sz_neg (p:PQ):p.neg.sz=p.sz:=by
 unfold PQ.neg PQ.sz; simp only [Go.Proofs.YtdnmfaljidjijaaGreat.sz_neg]
theorem jw (p:PQ) (hp:p.sz≤4294967296):ag Tryz.prog 283 [.any,pA p] (pA p.neg):=by
 have h:=cL J8 (pc p) xW (be (by omega))
 rw [rI,aO] at h
 have e:PQ.sub ⟨0,0⟩ p=p.neg:=PQ.ext (by unfold PQ.sub PQ.neg; simp only; grind) (by unfold PQ.sub PQ.neg; simp only; grind)
 rw [e] at h
 have h2:ag Tryz.prog 125 [pZ,pA p] (pA p.neg):=h.args (.cons D4 (.cons (Wk.refl _) .nil))
 unfold pZ at h2
 simp only [aQ] at *
 refine Pg Tryz.func283 rfl [.cell 4 72] rfl (by simp -implicitDefEqProofs [go_sem,bW]) ?_
 simp -implicitDefEqProofs [go_sem]
 refine ac h2 ?_
 simp -implicitDefEqProofs [go_sem,aL]
def cd (u v:PR) (ou ov:PQ) (h:Rat) (tol:RQ) (x:AV):List AV :=
 [.bool u.x.neg,nA u.x.p,nA u.x.q,.bool u.y.neg,nA u.y.p,nA u.y.q,.bool v.x.neg,nA v.x.p,nA v.x.q,.bool v.y.neg,nA v.y.p,nA v.y.q,
  .bool (qc ou.x).neg,nA (qc ou.x).p,nA (qc ou.x).q,.bool (qc ou.y).neg,nA (qc ou.y).p,nA (qc ou.y).q,.bool (qc ov.x).neg,nA (qc ov.x).p,nA (qc ov.x).q,.bool (qc ov.y).neg,nA (qc ov.y).p,nA (qc ov.y).q,
  .bool (qc h).neg,nA (qc h).p,nA (qc h).q,.bool tol.neg,nA tol.p,nA tol.q,x]
theorem dh (u v:PR) (ou ov:PQ) (h:Rat) (tol:RQ) (x:AV) (hx:ro x):roL (cd u v ou ov h tol x):=by
 unfold cd; simp -implicitDefEqProofs [go_sem,hx]
theorem G3 (u v:PR) (ou ov:PQ) (h:Rat) (tol:RQ) (x:AV) (p o:PQ) (hp:p.sz≤1048576) (ho:o.sz≤1048576) (hh:sz h≤1048576) (ht:tol.In 1048576) :
 ag Tryz.prog 289 [.rp (cd u v ou ov h tol x),pA p,pA o] (.bool (decide (iq (p.dot o) (h-tol.val) (o.dot o)))):=by
 have zt:=ht.sz
 have k1:=tF p o (by omega) (by omega)
 have y1:=PQ.sz_dot p o
 have k2:=ij (qc h) tol (c_ (by omega)) ht.sm
 rw [br] at k2
 have y2:=sz_sub h tol.val
 have k3:=tF o o (by omega) (by omega)
 have y3:=PQ.sz_dot o o
 have k4:=oh (p.dot o) (h-tol.val) (o.dot o) (by omega) (by omega) (by omega)
 generalize decide (iq (p.dot o) (h-tol.val) (o.dot o))=B at *
 generalize h-tol.val=w1 at *
 generalize p.dot o=w2 at *
 generalize o.dot o=w3 at *
 simp only [aQ,bA] at *
 unfold RQ.av at k2
 unfold cd
 refine Pg Tryz.func289 rfl [.tmp 6] rfl (by simp -implicitDefEqProofs [go_sem]) ?_
 simp -implicitDefEqProofs [go_sem]
 refine aa k1 ?_
 simp -implicitDefEqProofs [go_sem]
 refine aa k2 ?_
 simp -implicitDefEqProofs [go_sem]
 refine aa k3 ?_
 simp -implicitDefEqProofs [go_sem]
 refine aa k4 ?_
 simp -implicitDefEqProofs [go_sem]
def BV (o:Option Rat):AV:=match o with
 | some r => .tup [rA r,.bool true]
 | none => .tup [rZ,.bool false]
def lj (o:Option Rat):List AV:=match o with
 | some r=>rC r
 | none=>[.bool false,.sl 0 true [],.sl 0 true []]
theorem Ke (o:Option Rat):roL (lj o):=by
 cases o
 ·unfold lj; simp -implicitDefEqProofs [go_sem]
 ·exact gK _
theorem Kd (o:Option Rat):ro (BV o):=by
 cases o
 ·unfold BV rZ; simp -implicitDefEqProofs [go_sem]
 ·unfold BV; simp -implicitDefEqProofs [go_sem,dD]
theorem G0 (o:Option Rat):(lj o).length=3:=by cases o<;>rfl
theorem EU (o:Option Rat):(lj o).take 3=lj o:=by cases o<;>rfl
theorem ET (o:Option Rat):(lj o).drop 3=[]:=by cases o<;>rfl
theorem Lx (o:Option Rat):BV o = .tup [.agg (lj o),.bool o.isSome]:=by
 cases o<;>rfl
def i4 (s o:PQ) (h:Rat) (k:Nat):Rat:=cV (h*h*o.dot o / (s.dot o*s.dot o)) k
def G1 (s ou ov:PQ) (h:Rat) (k:Nat):Nat→Option Rat
 | 0=>none
 | 1=>if 0<s.dot ou then some (i4 s ou h k) else none
 | _=>mU s ou ov h k
theorem Dp (s ou ov:PQ) (h:Rat) (k:Nat):mU s ou ov h k=if 0<s.dot ov then (match G1 s ou ov h k 1 with
 | some r=>some (if i4 s ov h k<r then i4 s ov h k else r)
 | none=>some (i4 s ov h k)) else G1 s ou ov h k 1:=by
 unfold mU G1 i4
 simp only
 by_cases h1:0<s.dot ou<;>by_cases h2:0<s.dot ov<;>simp [h1,h2]
theorem Jh (s o:PQ) (h:Rat):0≤h*h*o.dot o / (s.dot o*s.dot o):=by
 rw [Rat.div_def]
 have h1:=Rat.mul_nonneg (cQ h) (PQ.dot_nn o)
 rcases Classical.em (s.dot o*s.dot o=0) with e|e
 ·rw [e,Rat.inv_zero,Rat.mul_zero]; exact Rat.le_refl
 ·have:=cQ (s.dot o)
  exact Rat.mul_nonneg h1 (Rat.le_of_lt (Rat.inv_pos.2 (by grind)))
structure FacW (s o:PQ) (h:Rat) (k:Nat):Prop where
 k1:ag Tryz.prog 131 [.agg (pC s),.agg (pC o)] (.agg (rC (s.dot o)))
 k2:ag Tryz.prog 34 [.agg (rC (s.dot o))] (.int .i64 (aM (s.dot o)))
 k3:ag Tryz.prog 131 [.agg (pC o),.agg (pC o)] (.agg (rC (o.dot o)))
 k4:ag Tryz.prog 58 [.agg (rC (h*h)),.agg (rC (o.dot o))] (.agg (rC (h*h*o.dot o)))
 k5:ag Tryz.prog 285 [.agg (rC (s.dot o))] (.agg (rC (s.dot o*s.dot o)))
 k6:0<s.dot o→ag Tryz.prog 130 [.agg (rC (h*h*o.dot o)),.agg (rC (s.dot o*s.dot o))] (.tup [.agg (rC (h*h*o.dot o / (s.dot o*s.dot o))),.int .i64 0])
 k7:ag Tryz.prog 312 [.agg (rC (h*h*o.dot o / (s.dot o*s.dot o))),.int .i64 k] (.tup [.agg (rC (i4 s o h k)),.int .i64 0])
 z:sz (i4 s o h k)≤17179869184
theorem OY (s o:PQ) (h:Rat) (k:Nat) (hk:k≤4096) (hs:s.sz≤1000) (ho:o.sz≤10) (hh:sz h≤10):FacW s o h k:=by
 have y1:=PQ.sz_dot s o
 have y2:=PQ.sz_dot o o
 have y3:=aJ h h
 have y4:=aJ (h*h) (o.dot o)
 have y5:=aJ (s.dot o) (s.dot o)
 have y6:=iS (h*h*o.dot o) (s.dot o*s.dot o)
 have y7:=pl (q:=h*h*o.dot o / (s.dot o*s.dot o)) hk
 exact ⟨tF s o (by omega) (by omega),jx _ (by omega),tF o o (by omega) (by omega),li _ _ (by omega) (by omega),oL _ (by omega),
  fun h0=>AF _ _ (by omega) (by omega) (by have:=Rat.mul_pos h0 h0; grind),wa _ k hk (Jh s o h) (by omega),by unfold i4; omega⟩
theorem zg (u v:PR) (ou ov:PQ) (h:Rat) (tol:RQ) (x:AV) (s:PQ) (k:Nat) (hk:k≤4096) (hs:s.sz≤1000) (hou:ou.sz≤10) (hov:ov.sz≤10) (hh:sz h≤10) (hx:ro x) :
 ag Tryz.prog 288 [.rp (cd u v ou ov h tol x),pA s,.int .i64 k] (BV (mU s ou ov h k)):=by
 have hC:=dh u v ou ov h tol x hx
 have w1:=OY s ou h k hk hs hou hh
 have w2:=OY s ov h k hk hs hov hh
 have k0:=oL h (by omega)
 have hcmp:=fun (r:Rat) (hr:sz r≤17179869184)=>oU (i4 s ov h k) r w2.z hr
 have hfq:=Dp s ou ov h k
 have z1:=bR (x:=s.dot ou)
 have z2:=bR (x:=s.dot ov)
 refine ag.of_ca (Kd _) (Cg Tryz.func288 rfl [.cell 6 27,.tmp 7] rfl ?_)
 rw [Lx]
 simp only [aQ,bA] at *
 obtain ⟨C,hCe⟩:∃C,C=cd u v ou ov h tol x:=⟨_,rfl⟩
 have hl1:((C.drop 12).take 6)=pC ou:=by rw [hCe]; rfl
 have hl2:((C.drop 18).take 6)=pC ov:=by rw [hCe]; rfl
 have hl3:((C.drop 24).take 3)=rC h:=by rw [hCe]; rfl
 have hlen:C.length=31:=by rw [hCe]; rfl
 rw [←hCe] at hC ⊢
 clear hCe
 have hbv:∀a b,ly Tryz.prog (some ⟨12,a,.array 2 72,b⟩) [(0,.agg (pC ou)),(1,.agg (pC ov))]=(if b.length=12 then some (True,.agg (pC ou++pC ov)) else ly Tryz.prog (some ⟨12,a,.array 2 72,b⟩) [(0,.agg (pC ou)),(1,.agg (pC ov))]):=fun a b=>by
  split
  ·rename_i hb
   have ht:az Tryz.prog 72=some ⟨6,112,.struct [(0,27),(3,27)],[.bool false,.sl 0 true [],.sl 0 true [],.bool false,.sl 0 true [],.sl 0 true []]⟩:=by simp -implicitDefEqProofs [go_sem]
   unfold ly
   simp only
   rw [ht]
   simp [sN,AV.shaped,AV.cells,hb]
   refine ⟨rfl,⟨rfl,Nat.le_of_eq rfl⟩,?_⟩
   have e1:List.take 6 (pC ou++List.drop 6 b)=pC ou:=rfl
   have e2:List.drop 12 (pC ou++List.drop 6 b)=[]:=List.drop_of_length_le (by have:(pC ou).length=6:=rfl; simp [this,hb])
   rw [e1,e2,List.append_nil]
  ·rfl
 simp -implicitDefEqProofs [go_sem,hl1,hl2,hl3,hlen,hbv]
 have u1:=(renL_ro (nm []) _ hC).symm
 have u2:=cloL_ro (n:=3) _ hC
 have i1:∀l,List.take 6 (pC ou++l)=pC ou:=fun _=>rfl
 have i2:∀l,List.drop 6 (pC ou++l)=l:=fun _=>rfl
 have i3:List.take 6 (pC ov)=pC ov:=rfl
 obtain ⟨I,hI⟩:∃I,I=G1 s ou ov h k:=⟨_,rfl⟩
 have hI0:I 0=none:=by rw [hI]; rfl
 have hI1:I 1=if 0<s.dot ou then some (i4 s ou h k) else none:=by rw [hI]; rfl
 have hI2:I 2=if 0<s.dot ov then (match I 1 with
  | some r=>some (if i4 s ov h k<r then i4 s ov h k else r)
  | none=>some (i4 s ov h k)) else I 1:=by rw [hI]; exact hfq
 have hIQ:mU s ou ov h k=I 2:=by rw [hI]; rfl
 rw [hIQ]
 have hIr:∀i,roL (lj (I i)):=fun i=>Ke _
 clear hfq hI hIQ
 have v1:=fun i=>(renL_ro (nm []) _ (hIr i)).symm
 have v2:=fun i=>cloL_ro (n:=3) _ (hIr i)
 have rab:=aF.2 ⟨bW ou,bW ov⟩
 have b1:=(renL_ro (nm []) _ rab).symm
 have b2:=cloL_ro (n:=3) _ rab
 refine ap 3 (α:={i:Nat // i≤2}) (fun i=>[(0,.rp C),(2,.int .i64 k),(4,.ptr 0 0 0),(6,.ptr 1 0 0),(8,.ptr 2 0 0),(9,.bool (I i.1).isSome),(25,.agg (pC ou++pC ov)),(26,.int .i64 i.1)])
  (fun i=>[(0,.live 6 [.agg (pC s)]),(1,.live 3 [rZ]),(2,.live 3 [.agg (lj (I i.1))])]) (fun i=>2-i.1) ⟨0,by omega⟩ [] (by simp) (fun _ _ _ _ h=>h) (by omega) (by simp -implicitDefEqProofs [go_sem,hI0]; exact ⟨u1,u2⟩) (by simp -implicitDefEqProofs [go_sem,hI0,rZ,lj]) fun ⟨i,hi⟩=>?_
 simp -implicitDefEqProofs [go_sem]
 refine ⟨fun h2=>?_,fun h2=>?_⟩
 ·rcases (show i=0∨i=1 by omega) with rfl|rfl
  ·simp -implicitDefEqProofs [go_sem,i1,i2,i3]
   refine ac w1.k1 ?_
   simp -implicitDefEqProofs [go_sem]
   refine ac w1.k2 ?_
   by_cases c1:0<s.dot ou
   ·have c1':¬aM (s.dot ou)≤0:=fun hh=>absurd (z1.1 hh) (by grind)
    rw [if_pos c1] at hI1
    simp -implicitDefEqProofs [go_sem,c1',hl3,hlen]
    refine aa k0 ?_
    simp -implicitDefEqProofs [go_sem,i1,i2,i3]
    refine aa w1.k3 ?_
    simp -implicitDefEqProofs [go_sem]
    refine aa w1.k4 ?_
    simp -implicitDefEqProofs [go_sem]
    refine aa w1.k5 ?_
    simp -implicitDefEqProofs [go_sem]
    refine aa (w1.k6 c1) ?_
    simp -implicitDefEqProofs [go_sem]
    refine ac w1.k7 ?_
    simp -implicitDefEqProofs [go_sem,hI0,lj]
    have r1:=gK (i4 s ou h k)
    have x1:=(renL_ro (nm []) _ r1).symm
    have x2:=cloL_ro (n:=3) _ r1
    exact ae ⟨1,by omega⟩ (by simp only; omega) [] (by simp) (fun _ _ _ _ h=>h) (by simp) (by simp -implicitDefEqProofs [go_sem,hI0,hI1]; exact ⟨⟨u1,u2⟩,rfl⟩) (by simp -implicitDefEqProofs [go_sem,hI0,hI1,rZ,lj])
   ·have c1':aM (s.dot ou)≤0:=z1.2 (by grind)
    rw [if_neg c1] at hI1
    simp -implicitDefEqProofs [go_sem,c1']
    refine ae ⟨1,by omega⟩ (by simp only; omega) [] (by simp) (fun _ _ _ _ h=>h) (by simp) (by simp -implicitDefEqProofs [go_sem,hI0,hI1]; exact ⟨⟨u1,u2⟩,rfl⟩) (by simp -implicitDefEqProofs [go_sem,hI0,hI1,rZ,lj])
  ·simp -implicitDefEqProofs [go_sem,i1,i2,i3]
   refine ac w2.k1 ?_
   simp -implicitDefEqProofs [go_sem]
   refine ac w2.k2 ?_
   by_cases c1:0<s.dot ov
   ·have c1':¬aM (s.dot ov)≤0:=fun hh=>absurd (z2.1 hh) (by grind)
    rw [if_pos c1] at hI2
    simp -implicitDefEqProofs [go_sem,c1',hl3,hlen]
    refine aa k0 ?_
    simp -implicitDefEqProofs [go_sem,i1,i2,i3]
    refine aa w2.k3 ?_
    simp -implicitDefEqProofs [go_sem]
    refine aa w2.k4 ?_
    simp -implicitDefEqProofs [go_sem]
    refine aa w2.k5 ?_
    simp -implicitDefEqProofs [go_sem]
    refine aa (w2.k6 c1) ?_
    simp -implicitDefEqProofs [go_sem]
    refine ac w2.k7 ?_
    by_cases c2:0<s.dot ou
    ·rw [if_pos c2] at hI1
     simp only [hI1] at hI2
     have hc:=hcmp (i4 s ou h k) w1.z
     have z3:=dJ (x:=i4 s ov h k) (y:=i4 s ou h k)
     generalize bJ (i4 s ov h k) (i4 s ou h k)=cm at *
     simp -implicitDefEqProofs [go_sem,hI1,lj]
     refine ac hc ?_
     by_cases c3:i4 s ov h k<i4 s ou h k
     ·rw [if_pos c3] at hI2
      simp -implicitDefEqProofs [go_sem,z3.2 c3]
      exact ae ⟨2,by omega⟩ (by simp only; omega) [] (by simp) (fun _ _ _ _ h=>h) (by simp) (by simp -implicitDefEqProofs [go_sem,hI1,hI2]; exact ⟨⟨u1,u2⟩,rfl⟩) (by simp -implicitDefEqProofs [go_sem,hI1,hI2,rZ,lj])
     ·rw [if_neg c3] at hI2
      have c3':¬cm<0:=fun hh=>c3 (z3.1 hh)
      simp -implicitDefEqProofs [go_sem,c3']
      exact ae ⟨2,by omega⟩ (by simp only; omega) [] (by simp) (fun _ _ _ _ h=>h) (by simp) (by simp -implicitDefEqProofs [go_sem,hI1,hI2]; exact ⟨⟨u1,u2⟩,rfl⟩) (by simp -implicitDefEqProofs [go_sem,hI1,hI2,rZ,lj])
    ·rw [if_neg c2] at hI1
     simp only [hI1] at hI2
     simp -implicitDefEqProofs [go_sem,hI1,lj]
     exact ae ⟨2,by omega⟩ (by simp only; omega) [] (by simp) (fun _ _ _ _ h=>h) (by simp) (by simp -implicitDefEqProofs [go_sem,hI1,hI2]; exact ⟨⟨u1,u2⟩,rfl⟩) (by simp -implicitDefEqProofs [go_sem,hI1,hI2,rZ,lj])
   ·have c1':aM (s.dot ov)≤0:=z2.2 (by grind)
    rw [if_neg c1] at hI2
    simp -implicitDefEqProofs [go_sem,c1']
    exact ae ⟨2,by omega⟩ (by simp only; omega) [] (by simp) (fun _ _ _ _ h=>h) (by simp) (by simp -implicitDefEqProofs [go_sem,hI2]; exact ⟨⟨u1,u2⟩,rfl⟩) (by simp -implicitDefEqProofs [go_sem,hI2,rZ]; exact ⟨v1 1,v2 1⟩)
 ·have:i=2:=by omega
  subst this
  have f3:=hIr 2
  simp -implicitDefEqProofs [go_sem,aL,rZ,G0,EU,ET]
  rw [viewL_ro _ _ f3]
  exact ⟨fitsL_ro _ _ f3,f3,Wk.refl _⟩
structure SR where
 width:RQ
 miter:RQ
 cap:Int
 join:Int
 tol:RQ
def SR.cs (s:SR):List AV:=[.bool s.width.neg,nA s.width.p,nA s.width.q,.bool s.miter.neg,nA s.miter.p,nA s.miter.q,.int .i64 s.cap,.int .i64 s.join,.bool s.tol.neg,nA s.tol.p,nA s.tol.q]
def SR.av (s:SR):AV := .agg s.cs
theorem SR.ro_cs (s:SR):roL s.cs:=by unfold SR.cs; simp -implicitDefEqProofs [go_sem]
def SR.h (s:SR):Rat:=s.width.val*bB
structure SR.Lm (s:SR):Prop where
 width:s.width.Lm
 miter:s.miter.Lm
 tol:s.tol.Lm
structure SR.Sml (s:SR):Prop where
 width:s.width.In 1
 miter:s.miter.In 1
 tol:s.tol.In 1
 h:sz s.h≤1
structure CR where
 p:PR
 u:PR
 v:PR
def CR.cs (c:CR):List AV:=c.p.cs++c.u.cs++c.v.cs
def CR.av (c:CR):AV := .agg c.cs
structure CR.Lm (c:CR):Prop where
 p:c.p.Lm
 u:c.u.Lm
 v:c.v.Lm
structure CR.Sml (c:CR):Prop where
 p:c.p.In 1
 u:c.u.In 1
 v:c.v.In 1
theorem gc:(0:Rat)<bB:=by rw [dc]; grind
theorem dot0 (p:PQ):p.dot p=0↔p=⟨0,0⟩:=⟨fun h=>by
 have:=PQ.dot0 h
 exact PQ.ext this.1 this.2,fun h=>by rw [h]; unfold PQ.dot; grind⟩
theorem dA (x:Rat):rC x=[.bool (qc x).neg,nA (qc x).p,nA (qc x).q]:=rfl
theorem Am (v:PR) (h:Rat) (k:Nat) (hk:k≤4096) (hv:v.In 1000) (hne:v.val≠⟨0,0⟩) (hh:sz h≤1000) (h0:0<h) :
 ag Tryz.prog 287 [v.av,rA h,.int .i64 k] (.tup [pA (cj v.val h k),.int .i64 0]):=by
 have g1:=l5 v hv.mono
 rw [decide_eq_false hne] at g1
 have g2:=jx h (by omega)
 have z2:¬aM h<0:=fun hh=>absurd (iy.1 hh) (by grind)
 have g3:=GC v h k hk hv hne hh 0 1 rfl
 have w1:v.cs.length=6:=rfl
 have w2:=v.ro_cs
 have w5:v.cs.take 6=v.cs:=rfl
 have w6:v.cs.drop 6=[]:=rfl
 have w7:∀a b c,List.drop 9 (v.cs++[a,b,c])=([]:List AV):=fun a b c=>rfl
 have rR:=aF.2 ⟨w2,gK h⟩
 generalize cj v.val h k=n at *
 simp only [PR.av_cs,bA,aQ] at *
 generalize v.cs=cs at *
 refine Pg Tryz.func287 rfl [.cell 6 72,.tmp 7] rfl (by simp -implicitDefEqProofs [go_sem,bW]) ?_
 simp -implicitDefEqProofs [go_sem,w1,w5,w6]
 refine ah _ g1 (by simp [go_sem,w2]) ?_
 simp -implicitDefEqProofs [go_sem,w1,w5,w6]
 refine ac g2 ?_
 simp -implicitDefEqProofs [go_sem,w1,w5,w6,z2,w7]
 refine mB 3 g3 (by simp -implicitDefEqProofs [go_sem]) (by simp -implicitDefEqProofs [go_sem]) (by simp -implicitDefEqProofs [go_sem]; exact rR) (by simp -implicitDefEqProofs [go_sem]) fun r0 l' ⟨q1,q2⟩=>?_
 subst q1 q2
 simp -implicitDefEqProofs [go_sem,aL]
def uq (s:SR):Prop:=0<s.width.val∧0<s.tol.val∧0≤s.join∧s.join≤2∧(s.join=0→1≤s.miter.val∧s.miter.val≤64)
instance (s:SR):Decidable (uq s):=inferInstanceAs (Decidable (_∧_))
theorem Fp (s:SR) (hw:s.width.In 1000) (hm:s.miter.In 1000) (ht:s.tol.In 1000):ag Tryz.prog 239 [s.av] (.bool (decide (uq s))):=by
 have zm:=hm.sz
 have g1:=bI s.width hw.sm.ok
 have g2:=bI s.tol ht.sm.ok
 have z1:=bR (x:=s.width.val)
 have z2:=bR (x:=s.tol.val)
 have k1:=bM 1 1 (by omega) (by omega) (by omega)
 rw [show ((1:Int):Rat) / ((1:Int):Rat)=1 by grind] at k1
 have k2:=bM 64 1 (by omega) (by omega) (by omega)
 have y2:=gD (p:=64) (q:=1) (by omega) (by omega) (by omega)
 rw [show ((64:Int):Rat) / ((1:Int):Rat)=64 by grind] at k2 y2
 have y1:=eH
 have k3:=fM s.miter (qc 1) hm.sm (c_ (by omega))
 have k4:=fM s.miter (qc 64) hm.sm (c_ (by omega))
 rw [br] at k3 k4
 change ag _ _ [_,rA 1] _ at k3
 change ag _ _ [_,rA 64] _ at k4
 have z3:=iX (x:=s.miter.val) (y:=1)
 have z4:=iu (x:=s.miter.val) (y:=64)
 obtain ⟨B,hB⟩:∃B:Bool,B=decide (uq s):=⟨_,rfl⟩
 have hen:B=true↔(0<s.width.val∧0<s.tol.val∧0≤s.join∧s.join≤2∧(s.join=0→1≤s.miter.val∧s.miter.val≤64)):=by rw [hB,decide_eq_true_iff]; exact Iff.rfl
 rw [←hB]
 clear hB
 generalize bJ s.miter.val 1=c1 at *
 generalize bJ s.miter.val 64=c2 at *
 generalize aM s.width.val=s1 at *
 generalize aM s.tol.val=s2 at *
 obtain ⟨J,hJ⟩:∃J,J=s.join:=⟨_,rfl⟩
 rw [←hJ] at hen
 unfold SR.av SR.cs
 rw [←hJ]
 simp only [bA] at *
 unfold RQ.av at *
 refine Pg Tryz.func239 rfl [.tmp 2] rfl (by simp -implicitDefEqProofs [go_sem]) ?_
 simp -implicitDefEqProofs [go_sem]
 refine ac g1 ?_
 by_cases a1:s.width.val≤0
 ·have hb:B=false:=Bool.eq_false_iff.2 fun hh=>absurd (hen.1 hh).1 (by grind)
  subst hb
  simp -implicitDefEqProofs [go_sem,z1.2 a1]
 ·have a1':¬s1≤0:=fun hh=>a1 (z1.1 hh)
  simp -implicitDefEqProofs [go_sem,a1']
  refine ac g2 ?_
  by_cases a2:s.tol.val≤0
  ·have hb:B=false:=Bool.eq_false_iff.2 fun hh=>absurd (hen.1 hh).2.1 (by grind)
   subst hb
   simp -implicitDefEqProofs [go_sem,z2.2 a2]
  ·have a2':¬s2≤0:=fun hh=>a2 (z2.1 hh)
   by_cases a3:J<0
   ·have hb:B=false:=Bool.eq_false_iff.2 fun hh=>absurd (hen.1 hh).2.2.1 (by omega)
    subst hb
    simp -implicitDefEqProofs [go_sem,a2',a3]
   ·by_cases a4:2<J
    ·have hb:B=false:=Bool.eq_false_iff.2 fun hh=>absurd (hen.1 hh).2.2.2.1 (by omega)
     subst hb
     simp -implicitDefEqProofs [go_sem,a2',a3,a4]
    ·simp -implicitDefEqProofs [go_sem,a2',a3,a4]
     by_cases a5:J=0
     ·simp -implicitDefEqProofs [go_sem,a5]
      refine aa k1 ?_
      simp -implicitDefEqProofs [go_sem]
      refine aa k3 ?_
      by_cases a6:1≤s.miter.val
      ·simp -implicitDefEqProofs [go_sem,z3.2 a6]
       refine aa k2 ?_
       simp -implicitDefEqProofs [go_sem]
       refine aa k4 ?_
       by_cases a7:s.miter.val≤64
       ·have hb:B=true:=hen.2 ⟨by grind,by grind,by omega,by omega,fun _=>⟨a6,a7⟩⟩
        subst hb
        simp -implicitDefEqProofs [go_sem,z4.2 a7]
       ·have a7':¬c2≤0:=fun hh=>a7 (z4.1 hh)
        have hb:B=false:=Bool.eq_false_iff.2 fun hh=>a7 ((hen.1 hh).2.2.2.2 a5).2
        subst hb
        simp -implicitDefEqProofs [go_sem,a7']
      ·have a6':¬0≤c1:=fun hh=>a6 (z3.1 hh)
       have hb:B=false:=Bool.eq_false_iff.2 fun hh=>a6 ((hen.1 hh).2.2.2.2 a5).1
       subst hb
       simp -implicitDefEqProofs [go_sem,a6']
     ·have hb:B=true:=hen.2 ⟨by grind,by grind,by omega,by omega,fun h=>absurd h a5⟩
      subst hb
      simp -implicitDefEqProofs [go_sem,a5]
def fq (left:Bool):AV:=if left then .fn (.func 282) [] [] else .fn (.func 283) [.any] []
theorem cZ (left:Bool):ro (fq left):=by cases left<;>(unfold fq; simp -implicitDefEqProofs [go_sem])
def Mg (l:List PQ):Nat→List AV→Prop:=fun k m=>k=l.length∧m=l.map pA
theorem j7 (n:PQ) (k:Nat):B0 (some (n,k)) = .tup [pA n,.int .i64 k,.int .i64 0]:=rfl
theorem my:B0 none = .tup [pZ,.int .i64 0,.int .i64 24]:=rfl
theorem fY {v:PQ} {h tol:Rat} {n:PQ} {k:Nat} (hf:dt v h tol=some (n,k)) (hv:v.sz≤1000) (hh:sz h≤1000):n.sz≤7261:=by
 obtain ⟨rfl,_,_,hk⟩:=pS _ _ hf
 have:=lc (v:=v) (h:=h) (k:=k) (by omega)
 omega
theorem mn {u v:PQ} {h tol:Rat} {left:Bool} {l:List PQ} (hc:lC u v h tol left=some l):∃a b j k,dt u h tol=some (a,j)∧dt v h tol=some (b,k)∧l=[au a left,au b left]:=by
 unfold lC at hc
 split at hc
 ·rename_i a b h1 h2
  injection hc with hc
  exact ⟨a.1,b.1,a.2,b.2,h1,h2,hc.symm⟩
 ·cases hc
theorem wZ (u v:PR) (ou ov:PQ) (h:Rat) (tol:RQ) (left:Bool) (hu:u.In 1000) (hv:v.In 1000) (hu0:u.val≠⟨0,0⟩) (hv0:v.val≠⟨0,0⟩) (hh:sz h≤1000) (h0:0<h) (ht:tol.In 1000) (ht0:0<tol.val) {l:List PQ} (hl:lC u.val v.val h tol.val left=some l) :
 Qm Tryz.prog 241 [.rp (cd u v ou ov h tol (fq left))] 6 0 (Mg l):=by
 obtain ⟨a,b,j,k,e1,e2,rfl⟩:=mn hl
 have g1:=j8 u h tol hu hu0 hh h0 ht ht0
 have g2:=j8 v h tol hv hv0 hh h0 ht ht0
 rw [e1,j7] at g1
 rw [e2,j7] at g2
 have za:=fY e1 hu.sz hh
 have zb:=fY e2 hv.sz hh
 refine Cg Tryz.func241 rfl [.tmp 2,.tmp 3] rfl ?_
 unfold cd
 simp only [bA] at g1 g2
 simp only [aQ] at *
 unfold PR.av RQ.av at *
 have m1:=kF a
 have m2:=kF b
 have m3:=jw a (by omega)
 have m4:=jw b (by omega)
 simp only [aQ] at *
 cases left
 ·simp -implicitDefEqProofs [go_sem,fq]
  refine aa g1 ?_
  simp -implicitDefEqProofs [go_sem]
  refine aa g2 ?_
  simp -implicitDefEqProofs [go_sem]
  refine aa m3 ?_
  simp -implicitDefEqProofs [go_sem]
  refine aa m4 ?_
  simp -implicitDefEqProofs [go_sem]
  exact ⟨54,2,⟨rfl,rfl⟩,[.agg (pC a.neg),.agg (pC b.neg)],by simp [lK],by simp -implicitDefEqProofs [go_sem,bW],rfl,rfl⟩
 ·simp -implicitDefEqProofs [go_sem,fq]
  refine aa g1 ?_
  simp -implicitDefEqProofs [go_sem]
  refine aa g2 ?_
  simp -implicitDefEqProofs [go_sem]
  refine aa m1 ?_
  simp -implicitDefEqProofs [go_sem]
  refine aa m2 ?_
  simp -implicitDefEqProofs [go_sem]
  exact ⟨54,2,⟨rfl,rfl⟩,[.agg (pC a),.agg (pC b)],by simp [lK],by simp -implicitDefEqProofs [go_sem,bW],rfl,rfl⟩
theorem EK {u v:PQ} {h tol:Rat} {left:Bool} (hc:lC u v h tol left=none):dt u h tol=none∨(∃a j,dt u h tol=some (a,j))∧dt v h tol=none:=by
 unfold lC at hc
 cases h1:dt u h tol with
 | none=>exact .inl rfl
 | some a =>
  refine .inr ⟨⟨a.1,a.2,rfl⟩,?_⟩
  cases h2:dt v h tol with
  | none=>rfl
  | some b=>rw [h1,h2] at hc; cases hc
theorem oy (u v:PR) (ou ov:PQ) (h:Rat) (tol:RQ) (left:Bool) (hu:u.In 1000) (hv:v.In 1000) (hu0:u.val≠⟨0,0⟩) (hv0:v.val≠⟨0,0⟩) (hh:sz h≤1000) (h0:0<h) (ht:tol.In 1000) (ht0:0<tol.val) (hl:lC u.val v.val h tol.val left=none) :
 ag Tryz.prog 241 [.rp (cd u v ou ov h tol (fq left))] (.tup [.sl 0 true [],.int .i64 24]):=by
 have g1:=j8 u h tol hu hu0 hh h0 ht ht0
 have g2:=j8 v h tol hv hv0 hh h0 ht ht0
 have hx:=cZ left
 generalize fq left=x at *
 refine Pg Tryz.func241 rfl [.tmp 2,.tmp 3] rfl (by simp -implicitDefEqProofs [go_sem]) ?_
 unfold cd
 rcases EK hl with e1|⟨⟨a,j,e1⟩,e2⟩
 ·rw [e1,my] at g1
  unfold pZ at g1
  simp only [bA] at g1
  unfold PR.av RQ.av at *
  simp -implicitDefEqProofs [go_sem]
  refine aa g1 ?_
  simp -implicitDefEqProofs [go_sem]
 ·rw [e1,j7] at g1
  rw [e2,my] at g2
  unfold pZ at g2
  simp only [bA] at g1 g2
  simp only [aQ] at *
  unfold PR.av RQ.av at *
  simp -implicitDefEqProofs [go_sem]
  refine aa g1 ?_
  simp -implicitDefEqProofs [go_sem]
  refine aa g2 ?_
  simp -implicitDefEqProofs [go_sem]
def jQ (s:SR):Prop:=0<s.width.val∧0<s.tol.val∧0≤s.cap∧s.cap≤2
instance (s:SR):Decidable (jQ s):=inferInstanceAs (Decidable (_∧_))
theorem yc {s:SR} {C:Int} (hC:C=s.cap):s.av = .agg [.bool s.width.neg,nA s.width.p,nA s.width.q,.bool s.miter.neg,nA s.miter.p,nA s.miter.q,.int .i64 C,.int .i64 s.join,.bool s.tol.neg,nA s.tol.p,nA s.tol.q]:=by rw [hC]; rfl
theorem pH (s:SR) (hw:s.width.In 1000) (ht:s.tol.In 1000):ag Tryz.prog 177 [s.av] (.bool (decide (jQ s))):=by
 have g1:=bI s.width hw.sm.ok
 have g2:=bI s.tol ht.sm.ok
 have z1:=bQ (x:=s.width.val)
 have z2:=bQ (x:=s.tol.val)
 obtain ⟨C,hC⟩:∃C,C=s.cap:=⟨_,rfl⟩
 have hB:decide (jQ s)=(decide (0<aM s.width.val) && (decide (0<aM s.tol.val) && (decide (0≤C) && decide (C≤2)))):=by
  rw [←Bool.decide_and,←Bool.decide_and,←Bool.decide_and,decide_eq_decide,z1,z2,hC]; exact Iff.rfl
 rw [hB,yc hC]
 generalize aM s.width.val=s1 at *
 generalize aM s.tol.val=s2 at *
 clear hB z1 z2 hC
 unfold RQ.av at *
 refine Pg Tryz.func177 rfl [.tmp 2] rfl (by simp -implicitDefEqProofs [go_sem]) ?_
 simp -implicitDefEqProofs [go_sem]
 refine ac g1 ?_
 by_cases a1:0<s1
 ·simp -implicitDefEqProofs [go_sem,a1]
  refine ac g2 ?_
  by_cases a2:0<s2
  ·by_cases a3:0≤C
   ·by_cases a4:C≤2
    ·simp -implicitDefEqProofs [go_sem,a2,a3,a4]
    ·simp -implicitDefEqProofs [go_sem,a2,a3,a4]
   ·simp -implicitDefEqProofs [go_sem,a2,a3]
  ·simp -implicitDefEqProofs [go_sem,a2]
 ·simp -implicitDefEqProofs [go_sem,a1]
theorem mD (s:SR) (hw:s.width.In 1000):ag Tryz.prog 178 [s.av] (rA s.h):=by
 have k1:=bM 1 2 (by omega) (by omega) (by omega)
 rw [←dc] at k1
 have zhf:=fv
 have k2:=dC s.width (qc bB) hw.sm (c_ (by omega))
 rw [br] at k2
 change ag _ _ [_,rA bB] (rA s.h) at k2
 have hr:=s.ro_cs
 refine Pg Tryz.func178 rfl [.cell 2 27] rfl (dD _) ?_
 unfold SR.av SR.cs at *
 generalize s.h=h at *
 simp only [bA] at *
 unfold RQ.av at *
 simp -implicitDefEqProofs [go_sem]
 refine aa k1 ?_
 simp -implicitDefEqProofs [go_sem]
 refine aa k2 ?_
 simp -implicitDefEqProofs [go_sem,aL]
def bh (a b n:PQ):List PQ:=[a.sub n,b.sub n,b.add n,a.add n]
theorem wO (a b n:PR) (ha:a.In 1000000) (hb:b.In 1000000) (hn:n.In 1000000):ag Tryz.prog 179 [a.av,b.av,n.av] (pL (bh a.val b.val n.val)):=by
 have k1:=cL a n ha.mono hn.mono
 have k2:=cL b n hb.mono hn.mono
 have k3:=dY b n hb.mono hn.mono
 have k4:=dY a n ha.mono hn.mono
 unfold bh pL
 generalize a.val.sub n.val=p1 at *
 generalize b.val.sub n.val=p2 at *
 generalize b.val.add n.val=p3 at *
 generalize a.val.add n.val=p4 at *
 simp only [List.map_cons,List.map_nil,aQ] at *
 unfold PR.av at *
 refine Pg Tryz.func179 rfl [.tmp 6] rfl (by simp -implicitDefEqProofs [go_sem,bW]) ?_
 simp -implicitDefEqProofs [go_sem]
 refine aa k1 ?_
 simp -implicitDefEqProofs [go_sem]
 refine aa k2 ?_
 simp -implicitDefEqProofs [go_sem]
 refine aa k3 ?_
 simp -implicitDefEqProofs [go_sem]
 refine aa k4 ?_
 simp -implicitDefEqProofs [go_sem]
def I6 (p u:PQ) (h tol:Rat):List PQ×Int:=match dt u h tol with
 | none=>([],24)
 | some (n,_)=>(bh p (p.add ⟨n.y,-n.x⟩) n,0)
def jp (x:List PQ×Int):AV := .tup [pL x.1,.int .i64 x.2]
theorem kZ (x:List PQ×Int):ro (jp x):=by unfold jp; simp only [ro,roL]; exact ⟨iV _,trivial,trivial⟩
theorem jH (e:Int):Wk (.tup [.sl 0 true [],.int .i64 e]) (jp ([],e)):=Wk.tup (.cons (Wk.nil 0 6 true) (.cons (Wk.refl _) .nil))
theorem zl (p u:PR) (s:SR):ag Tryz.prog 290 [p.av,u.av,s.av] (jp ([],0)):=by
 refine ag.of_ca (kZ _) (Cg Tryz.func290 rfl [.tmp 6,.tmp 7] rfl ?_)
 unfold PR.av SR.av SR.cs
 simp -implicitDefEqProofs [go_sem]
 exact jH 0
theorem zo (p u:PR) (s:SR) (hp:p.In 1) (hu:u.In 3) (hu0:u.val≠⟨0,0⟩) (hs:s.Sml) (hm:jQ s):ag Tryz.prog 291 [p.av,u.av,s.av] (jp (I6 p.val u.val s.h s.tol.val)):=by
 have zp:=hp.sz
 have h0:0<s.h:=Rat.mul_pos hm.1 gc
 have k1:=mD s hs.width.mono
 have k2:=j8 u s.h s.tol hu.mono hu0 (by have:=hs.h; omega) h0 hs.tol.mono hm.2.1
 refine ag.of_ca (kZ _) (Cg Tryz.func291 rfl [.tmp 6,.tmp 7] rfl ?_)
 unfold I6
 cases hf:dt u.val s.h s.tol.val with
 | none =>
  rw [hf,my] at k2
  unfold pZ at k2
  generalize s.h=h at *
  unfold SR.av SR.cs PR.av RQ.av at *
  simp only [bA] at *
  simp -implicitDefEqProofs [go_sem]
  refine aa k1 ?_
  simp -implicitDefEqProofs [go_sem]
  refine aa k2 ?_
  simp -implicitDefEqProofs [go_sem]
  exact jH 24
 | some x =>
  obtain ⟨n,k⟩:=x
  rw [hf,j7] at k2
  have zn:=fY hf (by have:=hu.sz; omega) (by have:=hs.h; omega)
  have hnx:sz n.x≤7261:=Nat.le_trans (Nat.le_max_left _ _) zn
  have hny:sz n.y≤7261:=Nat.le_trans (Nat.le_max_right _ _) zn
  have k3:=K0 n.x (by omega)
  have zm:PQ.sz ⟨n.y,-n.x⟩≤7261:=Nat.max_le.2 ⟨hny,by rw [sz_neg]; exact hnx⟩
  have k4:=dY p (pc ⟨n.y,-n.x⟩) hp.mono (be (n:=7261) zm).mono
  rw [aO] at k4
  change ag _ _ [p.av,.agg (rC n.y++rC (-n.x))] _ at k4
  have z4:=PQ.sz_add p.val ⟨n.y,-n.x⟩
  have k5:=wO p (pc (p.val.add ⟨n.y,-n.x⟩)) (pc n) hp.mono (be (n:=100000) (by omega)).mono (be (n:=7261) zn).mono
  rw [aO,aO] at k5
  change ag _ _ [p.av,pA (p.val.add ⟨n.y,-n.x⟩),pA n] _ at k5
  simp only
  generalize bh p.val (p.val.add ⟨n.y,-n.x⟩) n=L at *
  generalize p.val.add ⟨n.y,-n.x⟩=q at *
  generalize s.h=h at *
  unfold jp pL at *
  unfold SR.av SR.cs PR.av RQ.av at *
  simp only [bA,aQ] at *
  simp -implicitDefEqProofs [go_sem]
  refine aa k1 ?_
  simp -implicitDefEqProofs [go_sem]
  refine aa k2 ?_
  simp -implicitDefEqProofs [go_sem]
  refine aa k3 ?_
  simp -implicitDefEqProofs [go_sem]
  refine aa k4 ?_
  simp -implicitDefEqProofs [go_sem]
  refine aa k5 ?_
  simp -implicitDefEqProofs [go_sem]
  exact Wk.refl _
theorem zq (p u:PR) (s:SR) (hp:p.In 1) (hs:s.Sml):ag Tryz.prog 293 [p.av,u.av,s.av] (jp (mV p.val s.h s.tol.val)):=by
 have k1:=mD s hs.width.mono
 have k3:=lE p (qc s.h) s.tol hp.mono (fL hs.h).mono hs.tol.mono
 rw [br] at k3
 change ag _ _ [_,rA s.h,_] _ at k3
 refine Pg Tryz.func293 rfl [.tmp 6,.tmp 7] rfl (kZ _) ?_
 unfold jp pL at *
 generalize mV p.val s.h s.tol.val=R at *
 generalize s.h=h at *
 unfold SR.av SR.cs PR.av RQ.av at *
 simp only [bA] at *
 simp -implicitDefEqProofs [go_sem]
 refine aa k1 ?_
 simp -implicitDefEqProofs [go_sem]
 refine aa k3 ?_
 simp -implicitDefEqProofs [go_sem]
def fk (a b:PQ) (s:SR):List PQ×Int:=if ¬jQ s then ([],1) else if a=b then ([],12) else match dt (b.sub a) s.h s.tol.val with
 | none=>([],24)
 | some (n,_)=>(bh a b n,0)
theorem sub_zero {a b:PQ}:b.sub a=⟨0,0⟩↔a=b:=by
 constructor
 ·intro h
  unfold PQ.sub at h
  rw [PQ.mk.injEq] at h
  exact PQ.ext (by grind) (by grind)
 ·intro h; subst h; exact PQ.ext (by unfold PQ.sub; simp only; grind) (by unfold PQ.sub; simp only; grind)
theorem EC (a b:PR) (s:SR) (ha:a.In 1) (hb:b.In 1) (hs:s.Sml):ag Tryz.prog 184 [a.av,b.av,s.av] (jp (fk a.val b.val s)):=by
 have za:=ha.sz
 have zb:=hb.sz
 have k0:=pH s hs.width.mono hs.tol.mono
 have k1:=nQ a b ha.mono hb.mono
 have k2:=cL b a hb.mono ha.mono
 have z2:=PQ.sz_sub b.val a.val
 have k3:=mD s hs.width.mono
 have hh:=hs.h
 refine ag.of_ca (kZ _) (Cg Tryz.func184 rfl [.tmp 6,.tmp 7] rfl ?_)
 obtain ⟨RES,hRES⟩:∃R,R=jp (fk a.val b.val s):=⟨_,rfl⟩
 rw [←hRES]
 unfold fk at hRES
 by_cases a0:jQ s
 ·rw [if_neg (fun h=>h a0)] at hRES
  rw [decide_eq_true a0] at k0
  by_cases a1:a.val=b.val
  ·rw [if_pos a1] at hRES
   rw [decide_eq_true a1] at k1
   unfold SR.av SR.cs PR.av at *
   simp -implicitDefEqProofs [go_sem]
   refine ac k0 ?_
   simp -implicitDefEqProofs [go_sem]
   refine ac k1 ?_
   simp -implicitDefEqProofs [go_sem]
   rw [hRES]
   exact jH 12
  ·rw [if_neg a1] at hRES
   rw [decide_eq_false a1] at k1
   have h0:0<s.h:=Rat.mul_pos a0.1 gc
   have k4:=j8 (pc (b.val.sub a.val)) s.h s.tol (be (n:=1000) (by omega)) (by rw [aO]; exact fun h=>a1 (sub_zero.1 h)) (by omega) h0 hs.tol.mono a0.2.1
   rw [aO] at k4
   change ag _ _ [pA (b.val.sub a.val),_,_] _ at k4
   cases hf:dt (b.val.sub a.val) s.h s.tol.val with
   | none =>
    rw [hf] at hRES
    rw [hf,my] at k4
    unfold pZ at k4
    generalize s.h=h at *
    generalize b.val.sub a.val=d at *
    unfold SR.av SR.cs PR.av RQ.av at *
    simp only [bA,aQ] at *
    simp -implicitDefEqProofs [go_sem]
    refine ac k0 ?_
    simp -implicitDefEqProofs [go_sem]
    refine ac k1 ?_
    simp -implicitDefEqProofs [go_sem]
    refine aa k2 ?_
    simp -implicitDefEqProofs [go_sem]
    refine aa k3 ?_
    simp -implicitDefEqProofs [go_sem]
    refine aa k4 ?_
    simp -implicitDefEqProofs [go_sem]
    rw [hRES]
    exact jH 24
   | some x =>
    obtain ⟨n,k⟩:=x
    rw [hf] at hRES
    rw [hf,j7] at k4
    simp only at hRES
    have zn:=fY hf (by omega) (by omega)
    have k5:=wO a b (pc n) ha.mono hb.mono (be (n:=7261) zn).mono
    rw [aO] at k5
    change ag _ _ [_,_,pA n] _ at k5
    generalize bh a.val b.val n=L at *
    generalize s.h=h at *
    generalize b.val.sub a.val=d at *
    unfold jp pL at *
    unfold SR.av SR.cs PR.av RQ.av at *
    simp only [bA,aQ] at *
    simp -implicitDefEqProofs [go_sem]
    refine ac k0 ?_
    simp -implicitDefEqProofs [go_sem]
    refine ac k1 ?_
    simp -implicitDefEqProofs [go_sem]
    refine aa k2 ?_
    simp -implicitDefEqProofs [go_sem]
    refine aa k3 ?_
    simp -implicitDefEqProofs [go_sem]
    refine aa k4 ?_
    simp -implicitDefEqProofs [go_sem]
    refine ac k5 ?_
    simp -implicitDefEqProofs [go_sem]
    rw [hRES]
    exact Wk.refl _
 ·rw [if_pos a0] at hRES
  rw [decide_eq_false a0] at k0
  unfold SR.av SR.cs PR.av at *
  simp -implicitDefEqProofs [go_sem]
  refine ac k0 ?_
  simp -implicitDefEqProofs [go_sem]
  rw [hRES]
  exact jH 1
def gX (p u:PQ) (s:SR):List PQ×Int:=if ¬jQ s then ([],1) else if u=⟨0,0⟩ then ([],12) else if s.cap=0 then ([],0) else if s.cap=1 then I6 p u s.h s.tol.val else mV p s.h s.tol.val
theorem yY (p u:PR) (s:SR) (hp:p.In 1) (hu:u.In 3) (hs:s.Sml):ag Tryz.prog 186 [p.av,u.av,s.av] (jp (gX p.val u.val s)):=by
 have k0:=pH s hs.width.mono hs.tol.mono
 have k1:=CH u hu.mono
 unfold pZ at k1
 have f1:=zl p u s
 have f2:=fun (h0:u.val≠⟨0,0⟩) (hm:jQ s)=>zo p u s hp hu h0 hs hm
 have f3:=zq p u s hp hs
 have hr0:=kZ
 refine ag.of_ca (kZ _) (Cg Tryz.func186 rfl [.tmp 6,.tmp 7] rfl ?_)
 obtain ⟨RES,hRES⟩:∃R,R=jp (gX p.val u.val s):=⟨_,rfl⟩
 rw [←hRES]
 unfold gX at hRES
 by_cases a0:jQ s
 ·rw [if_neg (fun h=>h a0)] at hRES
  rw [decide_eq_true a0] at k0
  by_cases a1:u.val=⟨0,0⟩
  ·rw [if_pos a1] at hRES
   rw [decide_eq_true a1] at k1
   unfold SR.av SR.cs PR.av at *
   simp -implicitDefEqProofs [go_sem]
   refine ac k0 ?_
   simp -implicitDefEqProofs [go_sem]
   refine ac k1 ?_
   simp -implicitDefEqProofs [go_sem]
   rw [hRES]
   exact jH 12
  ·rw [if_neg a1] at hRES
   rw [decide_eq_false a1] at k1
   have f2:=f2 a1 a0
   have hc0:=a0.2.2
   obtain ⟨C,hC⟩:∃C,C=s.cap:=⟨_,rfl⟩
   rw [←hC] at hRES hc0
   rw [yc hC] at *
   generalize I6 p.val u.val s.h s.tol.val=S2 at *
   generalize mV p.val s.h s.tol.val=S3 at *
   unfold jp pL at *
   unfold PR.av at *
   rcases (show C=0∨C=1∨C=2 by omega) with rfl|rfl|rfl
   ·simp -implicitDefEqProofs [go_sem]
    refine ac k0 ?_
    simp -implicitDefEqProofs [go_sem]
    refine ac k1 ?_
    simp -implicitDefEqProofs [go_sem]
    refine p_ (sz:=4) (rest:=[.int .u32 0,.sl 0 true []]) (by simp -implicitDefEqProofs [go_sem,jr]) ?_
    refine Cg Tryz.func244 rfl [] rfl ?_
    simp -implicitDefEqProofs [go_sem,cK,de]
    refine aa f1 ?_
    simp -implicitDefEqProofs [go_sem]
    rw [hRES]
    exact Wk.refl _
   ·simp -implicitDefEqProofs [go_sem]
    refine ac k0 ?_
    simp -implicitDefEqProofs [go_sem]
    refine ac k1 ?_
    simp -implicitDefEqProofs [go_sem]
    refine p_ (sz:=4) (rest:=[.int .u32 0,.sl 0 true []]) (by simp -implicitDefEqProofs [go_sem,jr]) ?_
    refine Cg Tryz.func244 rfl [] rfl ?_
    simp -implicitDefEqProofs [go_sem,cK,de]
    refine aa f2 ?_
    simp -implicitDefEqProofs [go_sem]
    rw [hRES]
    exact Wk.refl _
   ·simp -implicitDefEqProofs [go_sem]
    refine ac k0 ?_
    simp -implicitDefEqProofs [go_sem]
    refine ac k1 ?_
    simp -implicitDefEqProofs [go_sem]
    refine p_ (sz:=4) (rest:=[.int .u32 0,.sl 0 true []]) (by simp -implicitDefEqProofs [go_sem,jr]) ?_
    refine Cg Tryz.func244 rfl [] rfl ?_
    simp -implicitDefEqProofs [go_sem,cK,de]
    refine aa f3 ?_
    simp -implicitDefEqProofs [go_sem]
    rw [hRES]
    exact Wk.refl _
 ·rw [if_pos a0] at hRES
  rw [decide_eq_false a0] at k0
  unfold SR.av SR.cs PR.av at *
  simp -implicitDefEqProofs [go_sem]
  refine ac k0 ?_
  simp -implicitDefEqProofs [go_sem]
  rw [hRES]
  exact jH 1
def fW (p:PQ) (s:SR):List PQ×Int:=if ¬jQ s then ([],1) else if s.cap=1 then (bh (p.sub ⟨s.h,0⟩) (p.add ⟨s.h,0⟩) ⟨0,s.h⟩,0) else if s.cap=2 then mV p s.h s.tol.val else ([],0)
theorem D_:vW.val=0:=by unfold RQ.val RQ.num vW; simp [eD,o8,Rat.zero_mkRat]
def Rf:List AV:=[.bool false,.sl 0 true [],.sl 0 true []]
theorem Qi:rQ Rf [.bool vW.neg,nA vW.p,nA vW.q] := .cons (Wk.refl _) (.cons (Wk.nil 0 1 true) (.cons (Wk.nil 0 1 true) .nil))
theorem GW (p:PR) (s:SR) (hp:p.In 1) (hs:s.Sml):ag Tryz.prog 109 [p.av,s.av] (jp (fW p.val s)):=by
 have zp:=hp.sz
 have zh:=hs.h
 have k0:=pH s hs.width.mono hs.tol.mono
 have k3:=mD s hs.width.mono
 have k4:=lE p (qc s.h) s.tol hp.mono (fL hs.h).mono hs.tol.mono
 rw [br] at k4
 change ag _ _ [_,rA s.h,_] _ at k4
 have hXin:(⟨qc s.h,vW⟩:PR).In 1:=⟨fL zh,x9⟩
 have hYin:(⟨vW,qc s.h⟩:PR).In 1:=⟨x9,fL zh⟩
 have eX:PR.val ⟨qc s.h,vW⟩=⟨s.h,0⟩:=by unfold PR.val; simp only [br,D_]
 have eY:PR.val ⟨vW,qc s.h⟩=⟨0,s.h⟩:=by unfold PR.val; simp only [br,D_]
 have wX:Wk (.agg (rC s.h++Rf)) (PR.av ⟨qc s.h,vW⟩):=Wk.agg (.cons (Wk.refl _) (.cons (Wk.refl _) (.cons (Wk.refl _) Qi)))
 have wY:Wk (.agg (Rf++rC s.h)) (PR.av ⟨vW,qc s.h⟩):=Wk.agg (.cons (Wk.refl _) (.cons (Wk.nil 0 1 true) (.cons (Wk.nil 0 1 true) (.cons (Wk.refl _) (.cons (Wk.refl _) (.cons (Wk.refl _) .nil))))))
 have k5:=(cL p ⟨qc s.h,vW⟩ hp.mono hXin.mono).args (.cons (Wk.refl _) (.cons wX .nil))
 have k6:=(dY p ⟨qc s.h,vW⟩ hp.mono hXin.mono).args (.cons (Wk.refl _) (.cons wX .nil))
 rw [eX] at k5 k6
 have z5:=PQ.sz_sub p.val ⟨s.h,0⟩
 have z6:=PQ.sz_add p.val ⟨s.h,0⟩
 have zX:PQ.sz ⟨s.h,0⟩≤1:=by have:=hXin.sz; rwa [eX] at this
 have k7:=(wO (pc (p.val.sub ⟨s.h,0⟩)) (pc (p.val.add ⟨s.h,0⟩)) ⟨vW,qc s.h⟩ (be (n:=1000) (by omega)).mono (be (n:=1000) (by omega)).mono hYin.mono).args (.cons (Wk.refl _) (.cons (Wk.refl _) (.cons wY .nil)))
 rw [aO,aO,eY] at k7
 change ag _ _ [pA _,pA _,_] _ at k7
 refine ag.of_ca (kZ _) (Cg Tryz.func109 rfl [.tmp 4,.tmp 5] rfl ?_)
 obtain ⟨RES,hRES⟩:∃R,R=jp (fW p.val s):=⟨_,rfl⟩
 rw [←hRES]
 unfold fW at hRES
 clear wX wY eX eY hXin hYin
 by_cases a0:jQ s
 ·rw [if_neg (fun h=>h a0)] at hRES
  rw [decide_eq_true a0] at k0
  obtain ⟨C,hC⟩:∃C,C=s.cap:=⟨_,rfl⟩
  rw [←hC] at hRES
  have hc0:=a0.2.2
  rw [←hC] at hc0
  rw [yc hC] at *
  generalize bh (p.val.sub ⟨s.h,0⟩) (p.val.add ⟨s.h,0⟩) ⟨0,s.h⟩=S2 at *
  generalize mV p.val s.h s.tol.val=S3 at *
  generalize p.val.sub ⟨s.h,0⟩=q1 at *
  generalize p.val.add ⟨s.h,0⟩=q2 at *
  generalize s.h=h at *
  unfold jp pL at *
  unfold PR.av RQ.av Rf at *
  simp only [bA,aQ] at *
  have ht:∀a b c,(rC h++[a,b,c]).take 6=rC h++[a,b,c]:=fun _ _ _=>rfl
  have hro:roL (rC h++[AV.bool false,AV.sl 0 true [],AV.sl 0 true []]):=by unfold rC; simp -implicitDefEqProofs [go_sem]
  rcases (show C=0∨C=1∨C=2 by omega) with rfl|rfl|rfl
  ·simp -implicitDefEqProofs [go_sem]
   refine ac k0 ?_
   simp -implicitDefEqProofs [go_sem]
   refine ac k3 ?_
   simp -implicitDefEqProofs [go_sem]
   rw [hRES]
   exact Wk.tup (.cons (Wk.nil 0 6 true) (.cons (Wk.refl _) .nil))
  ·simp -implicitDefEqProofs [go_sem]
   refine ac k0 ?_
   simp -implicitDefEqProofs [go_sem]
   refine ac k3 ?_
   simp -implicitDefEqProofs [go_sem]
   refine ao _ k5 (by simp [go_sem,ht,hro]) ?_
   simp -implicitDefEqProofs [go_sem]
   refine ao _ k6 (by simp [go_sem,ht,hro]) ?_
   simp -implicitDefEqProofs [go_sem]
   refine aa k7 ?_
   simp -implicitDefEqProofs [go_sem]
   rw [hRES]
   exact Wk.refl _
  ·simp -implicitDefEqProofs [go_sem]
   refine ac k0 ?_
   simp -implicitDefEqProofs [go_sem]
   refine ac k3 ?_
   simp -implicitDefEqProofs [go_sem]
   refine ac k4 ?_
   simp -implicitDefEqProofs [go_sem]
   rw [hRES]
   exact Wk.refl _
 ·rw [if_pos a0] at hRES
  rw [decide_eq_false a0] at k0
  unfold SR.av SR.cs PR.av at *
  simp -implicitDefEqProofs [go_sem]
  refine ac k0 ?_
  simp -implicitDefEqProofs [go_sem]
  rw [hRES]
  exact jH 1
def HV (w t:Rat) (c:Int):Prop:=0<w∧0<t∧0≤c∧c≤2
instance (w t:Rat) (c:Int):Decidable (HV w t c):=inferInstanceAs (Decidable (_∧_))
def yC (a b:PQ) (w t:Rat) (c:Int):List PQ×Int:=if ¬HV w t c then ([],1) else if a=b then ([],12) else match dt (b.sub a) (w*bB) t with
 | none=>([],24)
 | some (n,_)=>(bh a b n,0)
def GY (p u:PQ) (w t:Rat) (c:Int):List PQ×Int:=if ¬HV w t c then ([],1) else if u=⟨0,0⟩ then ([],12) else if c=0 then ([],0) else if c=1 then I6 p u (w*bB) t else mV p (w*bB) t
theorem yD (a b:PQ) (s:SR):fk a b s=yC a b s.width.val s.tol.val s.cap:=rfl
theorem Do (p u:PQ) (s:SR):gX p u s=GY p u s.width.val s.tol.val s.cap:=rfl
def jz (c:Int):SR:=⟨qc 2,qc 4,c,0,qc bB⟩
theorem T7:sz (2:Rat)≤1:=by
 have:=nW (x:=2) (by omega)
 simpa using this
theorem T8:sz (4:Rat)≤1:=by
 have:=nW (x:=4) (by omega)
 simpa using this
theorem yO:ag Tryz.prog 103 [.int .i64 0,rA bB] (jz 0).av:=by
 have k1:=bM 2 1 (by omega) (by omega) (by omega)
 rw [show ((2:Int):Rat) / ((1:Int):Rat)=2 by grind] at k1
 have k2:=bM 4 1 (by omega) (by omega) (by omega)
 rw [show ((4:Int):Rat) / ((1:Int):Rat)=4 by grind] at k2
 have e:(jz 0).av = .agg (rC 2++(rC 4++(.int .i64 0 :: .int .i64 0::rC bB))):=rfl
 rw [e]
 simp only [bA] at *
 unfold rC at *
 refine Pg Tryz.func103 rfl [.cell 4 89] rfl (by simp -implicitDefEqProofs [go_sem]) ?_
 simp -implicitDefEqProofs [go_sem]
 refine aa k1 ?_
 simp -implicitDefEqProofs [go_sem]
 refine aa k2 ?_
 simp -implicitDefEqProofs [go_sem,aL]
theorem A6 (c:Int):(jz c).Sml:=by
 refine ⟨fL T7,fL T8,fL fv,?_⟩
 have:(jz c).h=1:=by
  unfold SR.h jz
  simp only [br]
  rw [dc]; grind
 rw [this,eH]; exact Nat.le_refl _
theorem TS:yC (wP 0 0) (wP 4 0) 2 bB 0=([wP 0 (-1),wP 4 (-1),wP 4 1,wP 0 1],0):=by decide +kernel
def wG (l:List PQ):Prop:=l.length≤16384∧∀x∈l,x.sz≤30000
theorem fl:wG []:=⟨by simp,by simp⟩
theorem zG {p:PQ} {h tol:Rat} (hp:p.sz≤1) (hh:sz h≤1):wG (mV p h tol).1:=by
 rcases ig p h tol with ⟨k,_⟩|⟨e,h1,_,_,_,k⟩
 ·rw [k]; exact fl
 ·rw [k]
  have hq:2 ^ e≤4096:=(Ay (by omega)).2 h1
  have hp1:1≤2 ^ e:=Nat.pow_pos (by omega)
  generalize 2 ^ e=m at *
  refine ⟨by simp only [da]; omega,fun x hx=>?_⟩
  have:=GQ (c:=p) (h:=h) hp1 hq x hx
  omega
theorem lI {a b n:PQ} (ha:a.sz≤8000) (hb:b.sz≤8000) (hn:n.sz≤7261):wG (bh a b n):=by
 refine ⟨by simp [bh],fun x hx=>?_⟩
 have h1:=PQ.sz_sub a n
 have h2:=PQ.sz_sub b n
 have h3:=PQ.sz_add b n
 have h4:=PQ.sz_add a n
 simp only [bh,List.mem_cons,List.not_mem_nil,or_false] at hx
 rcases hx with rfl|rfl|rfl|rfl<;>omega
theorem EV {a b:PQ} {s:SR} (ha:a.sz≤1) (hb:b.sz≤1) (hs:s.Sml):wG (fk a b s).1:=by
 have hh:=hs.h
 have z:=PQ.sz_sub b a
 unfold fk
 split
 ·exact fl
 split
 ·exact fl
 ·cases hf:dt (b.sub a) s.h s.tol.val with
  | none=>exact fl
  | some x=>exact lI (by omega) (by omega) (fY (n:=x.1) (k:=x.2) hf (by omega) (by omega))
theorem Jj {p u:PQ} {h tol:Rat} (hp:p.sz≤1) (hu:u.sz≤3) (hh:sz h≤1):wG (I6 p u h tol).1:=by
 unfold I6
 cases hf:dt u h tol with
 | none=>exact fl
 | some x =>
  have zn:=fY (n:=x.1) (k:=x.2) hf (by omega) (by omega)
  have h1:sz x.1.x≤7261:=Nat.le_trans (Nat.le_max_left _ _) zn
  have h2:sz x.1.y≤7261:=Nat.le_trans (Nat.le_max_right _ _) zn
  have h3:PQ.sz ⟨x.1.y,-x.1.x⟩≤7261:=Nat.max_le.2 ⟨h2,by rw [sz_neg]; exact h1⟩
  have h4:=PQ.sz_add p ⟨x.1.y,-x.1.x⟩
  exact lI (by omega) (by omega) zn
theorem zF {p u:PQ} {s:SR} (hp:p.sz≤1) (hu:u.sz≤3) (hs:s.Sml):wG (gX p u s).1:=by
 unfold gX
 split
 ·exact fl
 split
 ·exact fl
 split
 ·exact fl
 split
 ·exact Jj hp hu hs.h
 ·exact zG hp hs.h
theorem zE {p:PQ} {s:SR} (hp:p.sz≤1) (hs:s.Sml):wG (fW p s).1:=by
 have hh:=hs.h
 have z0:sz (0:Rat)≤1:=by rw [show sz 0=1 from by have:=nX 0; simpa [oP] using this]; omega
 have zx:PQ.sz ⟨s.h,0⟩≤1:=Nat.max_le.2 ⟨hh,z0⟩
 have zy:PQ.sz ⟨0,s.h⟩≤1:=Nat.max_le.2 ⟨z0,hh⟩
 have h1:=PQ.sz_sub p ⟨s.h,0⟩
 have h2:=PQ.sz_add p ⟨s.h,0⟩
 unfold fW
 split
 ·exact fl
 split
 ·exact lI (by omega) (by omega) (by omega)
 split
 ·exact zG hp hh
 ·exact fl
def I7 (o:Option (List PQ)) (r:AV) (f1:Nat→BS):Prop:=match o with
 | some l=>∃id k m,r = .tup [.own 6 id 0 k,.int .i64 0]∧f1 id = .live 6 m∧roL m∧Mg l k m
 | none=>r = .tup [.sl 0 true [],.int .i64 24]
theorem wz {u v:PQ} {h tol:Rat} {left:Bool} {k:Nat} (hk:k≤4096):iL u v h tol left (4097-k) k=match pn u v h tol left k with
 | some l=>some l
 | none=>iL u v h tol left (4097-(k+1)) (k+1):=by
 rw [show 4097-k=(4097-(k+1))+1 by omega]
 rfl
theorem cE (n:PQ) (left:Bool):(au n left).sz=n.sz:=by
 cases left
 ·exact PQ.sz_neg n
 ·rfl
theorem yi (u v:PQ) (h tol:Rat) (left:Bool) (k:Nat):pn u v h tol left k =
 if au (cj u h k) left=⟨0,0⟩∨au (cj v h k) left=⟨0,0⟩ then none else
 match mU ((au (cj u h k) left).add (au (cj v h k) left)) (au u.rot left) (au v.rot left) h k with
 | none=>none
 | some r=>if r<bB then none else
  if iq ((au (cj u h k) left).dot (au u.rot left)) (h-tol) ((au u.rot left).dot (au u.rot left)) ∧
   iq ((((au (cj u h k) left).add (au (cj v h k) left)).scale r).dot (au u.rot left)) (h-tol) ((au u.rot left).dot (au u.rot left)) ∧
   iq ((au (cj v h k) left).dot (au v.rot left)) (h-tol) ((au v.rot left).dot (au v.rot left)) ∧
   iq ((((au (cj u h k) left).add (au (cj v h k) left)).scale r).dot (au v.rot left)) (h-tol) ((au v.rot left).dot (au v.rot left)) then
   some [au (cj u h k) left,((au (cj u h k) left).add (au (cj v h k) left)).scale r,au (cj v h k) left] else none:=rfl
theorem rB {s o:PQ} {h:Rat} {k:Nat} (hk:k≤4096) (hs:s.sz≤1000) (ho:o.sz≤10) (hh:sz h≤10):sz (i4 s o h k)≤4400:=by
 have y1:=PQ.sz_dot s o
 have y2:=PQ.sz_dot o o
 have y3:=aJ h h
 have y4:=aJ (h*h) (o.dot o)
 have y5:=aJ (s.dot o) (s.dot o)
 have y6:=iS (h*h*o.dot o) (s.dot o*s.dot o)
 have y7:=pl (q:=h*h*o.dot o / (s.dot o*s.dot o)) hk
 unfold i4; omega
theorem xj {s ou ov:PQ} {h r:Rat} {k:Nat} (hf:mU s ou ov h k=some r) (hk:k≤4096) (hs:s.sz≤1000) (ho:ou.sz≤10) (hv:ov.sz≤10) (hh:sz h≤10):sz r≤4400:=by
 have h1:=rB (s:=s) (o:=ou) (h:=h) hk hs ho hh
 have h2:=rB (s:=s) (o:=ov) (h:=h) hk hs hv hh
 rw [Dp] at hf
 unfold G1 at hf
 by_cases c1:0<s.dot ov
 ·rw [if_pos c1] at hf
  by_cases c2:0<s.dot ou
  ·simp only [if_pos c2,Option.some.injEq] at hf
   rw [←hf]
   split<;>omega
  ·simp only [if_neg c2,Option.some.injEq] at hf
   rw [←hf]; exact h2
 ·rw [if_neg c1] at hf
  by_cases c2:0<s.dot ou
  ·simp only [if_pos c2,Option.some.injEq] at hf
   rw [←hf]; exact h1
  ·simp only [if_neg c2] at hf
   cases hf
def Gr (left:Bool) (a:PQ):Prop:=match left with
 | true=>ag Tryz.prog 282 [.agg (pC a)] (.agg (pC (au a true)))
 | false=>ag Tryz.prog 283 [.any,.agg (pC a)] (.agg (pC (au a false)))
theorem K8 (left:Bool) (a:PQ) (ha:a.sz≤4294967296):Gr left a:=by
 cases left
 ·exact jw a ha
 ·exact kF a
theorem DG {z:Bool} {ne:Nat} {Q:AEx→St→Prop} {k:List Itm} {t:Nat→AV} {f:Nat→BS} {n:Nat} {bq:Bool} {d:Option Tmp} {left:Bool} {a:PQ} (ht:Gr left a) (h:go Tryz.prog z ne Q k (aX t d (.agg (pC (au a left)))) f n) :
 nI Tryz.prog z ne Q true bq (GM (fq left) [.agg (pC a)]) (Kx (fq left)) [.agg (pC a)] d k t f n:=by
 unfold Gr at ht
 cases left
 ·simp -implicitDefEqProofs [go_sem,fq]
  exact ao _ ht (by simp [go_sem,bW]) h
 ·simp -implicitDefEqProofs [go_sem,fq]
  exact ao _ ht (by simp [go_sem,bW]) h
theorem IN (u v:PR) (h:Rat) (tol:RQ) (left:Bool) (hu:u.In 1) (hv:v.In 1) (hu0:u.val≠⟨0,0⟩) (hv0:v.val≠⟨0,0⟩) (hh:sz h≤1) (h0:0<h) (ht:tol.In 1) :
 CA Tryz.prog 243 [.rp (cd u v (au u.val.rot left) (au v.val.rot left) h tol (fq left))] (fun _ => .fresh) 0 fun r f1 _=>I7 (iL u.val v.val h tol.val left 4097 0) r f1:=by
 have zu:=hu.sz
 have zv:=hv.sz
 have hx:=cZ left
 obtain ⟨ou,hou⟩:∃ou,ou=au u.val.rot left:=⟨_,rfl⟩
 obtain ⟨ov,hov⟩:∃ov,ov=au v.val.rot left:=⟨_,rfl⟩
 have zou:ou.sz≤1:=by rw [hou,cE]; exact Nat.le_trans (PQ.sz_rot _) zu
 have zov:ov.sz≤1:=by rw [hov,cE]; exact Nat.le_trans (PQ.sz_rot _) zv
 have hAt:=fun (k:Nat) (hk:k≤4096)=>Am u h k hk hu.mono hu0 (by omega) h0
 have hBt:=fun (k:Nat) (hk:k≤4096)=>Am v h k hk hv.mono hv0 (by omega) h0
 have hfar:=fun (p o:PQ) (hp:p.sz≤1048576) (ho:o.sz≤1048576)=>G3 u v ou ov h tol (fq left) p o hp ho (by omega) ht.mono
 have hfac:=fun (s:PQ) (k:Nat) (hk:k≤4096) (hs:s.sz≤1000)=>zg u v ou ov h tol (fq left) s k hk hs (by omega) (by omega) (by omega) hx
 have k1:=bM 1 2 (by omega) (by omega) (by omega)
 rw [←dc] at k1
 have zh:=fv
 have hC:=dh u v ou ov h tol (fq left) hx
 rw [←hou,←hov]
 have hT:=fun (k:Nat)=>yi u.val v.val h tol.val left k
 simp only [←hou,←hov] at hT
 clear hx
 obtain ⟨C,hCe⟩:∃C,C=cd u v ou ov h tol (fq left):=⟨_,rfl⟩
 have f1:C.take 6=u.cs:=by rw [hCe]; rfl
 have f2:(C.drop 6).take 6=v.cs:=by rw [hCe]; rfl
 have f3:(C.drop 12).take 6=pC ou:=by rw [hCe]; rfl
 have f4:(C.drop 18).take 6=pC ov:=by rw [hCe]; rfl
 have f5:(C.drop 24).take 3=rC h:=by rw [hCe]; rfl
 have f6:C.drop 30=[fq left]:=by rw [hCe]; rfl
 have f7:C.length=31:=by rw [hCe]; rfl
 simp only [←hCe] at hfar hfac hC ⊢
 clear hCe
 refine Cg Tryz.func243 rfl [.tmp 2,.tmp 3] rfl ?_
 simp only [PR.av_cs,bA,aQ] at *
 have r1:=u.ro_cs
 have r2:=v.ro_cs
 simp -implicitDefEqProofs [go_sem,f7]
 have u1:=(renL_ro (nm []) _ hC).symm
 have u2:=cloL_ro (n:=0) _ hC
 refine ap 0 (α:={k:Nat // k≤4097∧iL u.val v.val h tol.val left 4097 0=iL u.val v.val h tol.val left (4097-k) k}) (fun k=>[(0,.rp C),(12,.int .i64 k.1)])
  (fun k=>[]) (fun k=>4097-k.1) ⟨0,by omega,rfl⟩ [] (by simp) (by simp) (by omega) (by simp -implicitDefEqProofs [go_sem]; exact ⟨u1,u2⟩) (by simp) fun ⟨k,hk,hfk⟩=>?_
 simp -implicitDefEqProofs [go_sem]
 refine ⟨fun h4=>?_,fun h4=>?_⟩
 ·have hk':k≤4096:=by omega
  have ek:=wS k (by omega)
  have hst:=wz (u:=u.val) (v:=v.val) (h:=h) (tol:=tol.val) (left:=left) hk'
  have hTk:=hT k
  have gA:=hAt k hk'
  have gB:=hBt k hk'
  have za:=lc (v:=u.val) (h:=h) hk'
  have zb:=lc (v:=v.val) (h:=h) hk'
  have tA:=K8 left (cj u.val h k) (by omega)
  have tB:=K8 left (cj v.val h k) (by omega)
  have zA:(au (cj u.val h k) left).sz≤268:=by rw [cE]; omega
  have zB:(au (cj v.val h k) left).sz≤268:=by rw [cE]; omega
  have again:pn u.val v.val h tol.val left k=none→iL u.val v.val h tol.val left 4097 0=iL u.val v.val h tol.val left (4097-(k+1)) (k+1):=fun e=>by rw [hfk,hst,e]
  have done:∀l,pn u.val v.val h tol.val left k=some l→iL u.val v.val h tol.val left 4097 0=some l:=fun l e=>by rw [hfk,hst,e]
  generalize cj u.val h k=a at *
  generalize cj v.val h k=b at *
  simp -implicitDefEqProofs [go_sem,f1,f2,f3,f4,f5,f6,f7]
  refine ao _ gA (by simp [go_sem,r1,gK]) ?_
  simp -implicitDefEqProofs [go_sem,f1,f2,f3,f4,f5,f6,f7]
  refine ao _ gB (by simp [go_sem,r2,gK]) ?_
  simp -implicitDefEqProofs [go_sem,f1,f2,f3,f4,f5,f6,f7]
  refine DG tA ?_
  simp -implicitDefEqProofs [go_sem,f1,f2,f3,f4,f5,f6,f7]
  refine DG tB ?_
  generalize au a left=A at *
  generalize au b left=B at *
  have gNA:=zV A (by omega)
  have gNB:=zV B (by omega)
  simp only [aQ] at gNA gNB
  simp -implicitDefEqProofs [go_sem,f1,f2,f3,f4,f5,f6,f7]
  refine ac gNA ?_
  by_cases a1:A=⟨0,0⟩
  ·have hn:=hTk.trans (if_pos (.inl a1))
   simp -implicitDefEqProofs [go_sem,a1,ek]
   exact ae ⟨k+1,by omega,again hn⟩ (by simp only; omega) [] (by simp) (by simp) (by simp) (by simp -implicitDefEqProofs [go_sem]; exact ⟨u1,u2⟩) (by simp)
  ·simp -implicitDefEqProofs [go_sem,a1]
   refine ac gNB ?_
   by_cases a2:B=⟨0,0⟩
   ·have hn:=hTk.trans (if_pos (.inr a2))
    simp -implicitDefEqProofs [go_sem,a2,ek]
    exact ae ⟨k+1,by omega,again hn⟩ (by simp only; omega) [] (by simp) (by simp) (by simp) (by simp -implicitDefEqProofs [go_sem]; exact ⟨u1,u2⟩) (by simp)
   ·have hT2:=hTk.trans (if_neg (fun h=>h.elim a1 a2))
    have gS:=KV A B (by omega) (by omega)
    have zS:=PQ.sz_add A B
    have gF:=hfac (A.add B) k hk' (by omega)
    generalize A.add B=S at *
    simp only [aQ] at gS
    simp -implicitDefEqProofs [go_sem,a2]
    refine ac gS ?_
    simp -implicitDefEqProofs [go_sem]
    refine ah _ gF (by simp [go_sem,bW,hC]) ?_
    cases hF:mU S ou ov h k with
    | none =>
     rw [hF] at hT2
     have hn:pn u.val v.val h tol.val left k=none:=hT2
     simp -implicitDefEqProofs [go_sem,BV,rZ,ek]
     exact ae ⟨k+1,by omega,again hn⟩ (by simp only; omega) [] (by simp) (by simp) (by simp) (by simp -implicitDefEqProofs [go_sem]; exact ⟨u1,u2⟩) (by simp)
    | some r =>
     rw [hF] at hT2
     simp only at hT2
     have zr:sz r≤4400:=xj hF hk' (by omega) (by omega) (by omega) (by omega)
     have gC:=oU r bB (by omega) (by omega)
     have zC:=dJ (x:=r) (y:=bB)
     generalize bJ r bB=cm at *
     simp only [bA] at gC
     simp -implicitDefEqProofs [go_sem,BV,bA]
     refine aa k1 ?_
     simp -implicitDefEqProofs [go_sem]
     refine aa gC ?_
     by_cases a3:r<bB
     ·have hn:=hT2.trans (if_pos a3)
      simp -implicitDefEqProofs [go_sem,zC.2 a3,ek]
      exact ae ⟨k+1,by omega,again hn⟩ (by simp only; omega) [] (by simp) (by simp) (by simp) (by simp -implicitDefEqProofs [go_sem]; exact ⟨u1,u2⟩) (by simp)
     ·have hT3:=hT2.trans (if_neg a3)
      have a3':¬cm<0:=fun hh=>a3 (zC.1 hh)
      have gT:=xX S r (by omega) (by omega)
      have zT:=PQ.sz_scale S r
      generalize S.scale r=T at *
      have q1:=hfar A ou (by omega) (by omega)
      have q2:=hfar T ou (by omega) (by omega)
      have q3:=hfar B ov (by omega) (by omega)
      have q4:=hfar T ov (by omega) (by omega)
      simp only [aQ,bA] at gT
      simp -implicitDefEqProofs [go_sem,a3']
      refine ac gT ?_
      simp -implicitDefEqProofs [go_sem,f1,f2,f3,f4,f5,f6,f7]
      refine ao _ q1 (by simp [go_sem,bW,hC]) ?_
      by_cases b1:iq (A.dot ou) (h-tol.val) (ou.dot ou)
      ·simp -implicitDefEqProofs [go_sem,b1,f1,f2,f3,f4,f5,f6,f7]
       refine ao _ q2 (by simp [go_sem,bW,hC]) ?_
       by_cases b2:iq (T.dot ou) (h-tol.val) (ou.dot ou)
       ·simp -implicitDefEqProofs [go_sem,b2,f1,f2,f3,f4,f5,f6,f7]
        refine ao _ q3 (by simp [go_sem,bW,hC]) ?_
        by_cases b3:iq (B.dot ov) (h-tol.val) (ov.dot ov)
        ·simp -implicitDefEqProofs [go_sem,b3,f1,f2,f3,f4,f5,f6,f7]
         refine ao _ q4 (by simp [go_sem,bW,hC]) ?_
         by_cases b4:iq (T.dot ov) (h-tol.val) (ov.dot ov)
         ·have hn:=done _ (hT3.trans (if_pos ⟨b1,b2,b3,b4⟩))
          rw [show (fun r f1 (x:Nat)=>I7 (iL u.val v.val h tol.val left 4097 0) r f1)=fun r f1 x=>I7 (some [A,T,B]) r f1 by rw [hn]]
          simp -implicitDefEqProofs [go_sem,b4]
          exact ⟨91,3,[.agg (pC A),.agg (pC T),.agg (pC B)],rfl,by simp -implicitDefEqProofs [go_sem],by simp -implicitDefEqProofs [go_sem,bW],rfl,rfl⟩
         ·have hn:=hT3.trans (if_neg (fun h=>b4 h.2.2.2))
          simp -implicitDefEqProofs [go_sem,b4,ek]
          exact ae ⟨k+1,by omega,again hn⟩ (by simp only; omega) [] (by simp) (by simp) (by simp) (by simp -implicitDefEqProofs [go_sem]; exact ⟨u1,u2⟩) (by simp)
        ·have hn:=hT3.trans (if_neg (fun h=>b3 h.2.2.1))
         simp -implicitDefEqProofs [go_sem,b3,ek]
         exact ae ⟨k+1,by omega,again hn⟩ (by simp only; omega) [] (by simp) (by simp) (by simp) (by simp -implicitDefEqProofs [go_sem]; exact ⟨u1,u2⟩) (by simp)
       ·have hn:=hT3.trans (if_neg (fun h=>b2 h.2.1))
        simp -implicitDefEqProofs [go_sem,b2,ek]
        exact ae ⟨k+1,by omega,again hn⟩ (by simp only; omega) [] (by simp) (by simp) (by simp) (by simp -implicitDefEqProofs [go_sem]; exact ⟨u1,u2⟩) (by simp)
      ·have hn:=hT3.trans (if_neg (fun h=>b1 h.1))
       simp -implicitDefEqProofs [go_sem,b1,ek]
       exact ae ⟨k+1,by omega,again hn⟩ (by simp only; omega) [] (by simp) (by simp) (by simp) (by simp -implicitDefEqProofs [go_sem]; exact ⟨u1,u2⟩) (by simp)
 ·have hk':k=4097:=by omega
  subst hk'
  rw [show iL u.val v.val h tol.val left 4097 0=none from hfk]
  simp -implicitDefEqProofs [go_sem,I7]
theorem IP (u v:PR) (h:Rat) (tol:RQ) (left:Bool) (hu:u.In 1) (hv:v.In 1) (hu0:u.val≠⟨0,0⟩) (hv0:v.val≠⟨0,0⟩) (hh:sz h≤1) (h0:0<h) (ht:tol.In 1) {l:List PQ} (hl:iL u.val v.val h tol.val left 4097 0=some l) :
 Qm Tryz.prog 243 [.rp (cd u v (au u.val.rot left) (au v.val.rot left) h tol (fq left))] 6 0 (Mg l) :=
 CA.mono (IN u v h tol left hu hv hu0 hv0 hh h0 ht) fun r f1 _ hr=>by rw [hl] at hr; exact hr
theorem Bb (u v:PR) (h:Rat) (tol:RQ) (left:Bool) (hu:u.In 1) (hv:v.In 1) (hu0:u.val≠⟨0,0⟩) (hv0:v.val≠⟨0,0⟩) (hh:sz h≤1) (h0:0<h) (ht:tol.In 1) (hl:iL u.val v.val h tol.val left 4097 0=none) :
 ag Tryz.prog 243 [.rp (cd u v (au u.val.rot left) (au v.val.rot left) h tol (fq left))] (.tup [.sl 0 true [],.int .i64 24]):=by
 refine ag.of_ca (by simp -implicitDefEqProofs [go_sem]) (CA.mono (IN u v h tol left hu hv hu0 hv0 hh h0 ht) fun r f1 _ hr=>?_)
 rw [hl] at hr
 have hr':r = .tup [.sl 0 true [],.int .i64 24]:=hr
 subst hr'
 simp -implicitDefEqProofs [go_sem]
 exact Wk.refl _
def qb (u v:PQ) (m h tol:Rat) (join:Int) (left:Bool):Option (List PQ):=if join=0∧fe u v m then iL u v h tol left 4097 0 else lC u v h tol left
def dl (p u v:PQ) (s:SR):List PQ×Int :=
 if u=⟨0,0⟩∨v=⟨0,0⟩ then ([],12) else if ¬uq s then ([],1) else if s.join=2 then mV p s.h s.tol.val else if u.cross v=0 then ([],0) else
 match qb u v s.miter.val s.h s.tol.val s.join (decide (u.cross v<0)) with
 | none=>([],24)
 | some l=>(p::(if u.cross v<0 then l.reverse else l).map p.add,0)
def nP (x:List PQ×Int):AV := .tup [pL x.1,.int .i64 x.2]
theorem FT (x:List PQ×Int):ro (nP x):=by unfold nP; simp only [ro,roL]; exact ⟨iV _,trivial,trivial⟩
theorem dw (p:PQ):pC p=[.bool (qc p.x).neg,nA (qc p.x).p,nA (qc p.x).q,.bool (qc p.y).neg,nA (qc p.y).p,nA (qc p.y).q]:=rfl
theorem dX {u v:PR} {ou ov:PQ} {h:Rat} {tol:RQ} {x y:AV} (hx:Wk x y):rQ (cd u v ou ov h tol x) (cd u v ou ov h tol y):=by
 unfold cd
 iterate 30 refine rQ.cons (Wk.refl _) ?_
 exact .cons hx .nil
def dH (left:Bool) (id:Nat):AV:=if left then .fn (.func 282) [] [] else .fn (.func 283) [.ptr id 0 0] []
theorem fw (left:Bool) (id:Nat):Wk (dH left id) (fq left):=by
 cases left
 ·refine ⟨fun c v h=>?_,fun _=>cZ false⟩
  unfold dH fq at *
  simp only [Bool.false_eq_true,if_false,Rv,Rl] at h ⊢
  obtain ⟨a,b,h1,⟨v1,r,h2,_,h3⟩,h4⟩:=h
  exact ⟨a,b,h1,⟨v1,r,h2,trivial,h3⟩,h4⟩
 ·exact Wk.refl _
theorem mR {u v:PQ} {h tol:Rat} {left:Bool} {l:List PQ}:∀f k,iL u v h tol left f k=some l→∃j,k≤j∧j<k+f∧pn u v h tol left j=some l
 | 0,_,e=>by simp [iL] at e
 | f+1,k,e=>by
  unfold iL at e
  split at e
  ·rename_i l' hl
   injection e with e; subst e
   exact ⟨k,by omega,by omega,hl⟩
  ·obtain ⟨j,h1,h2,h3⟩:=mR f (k+1) e
   exact ⟨j,by omega,by omega,h3⟩
theorem qj {u v:PQ} {h tol:Rat} {left:Bool} {k:Nat} {l:List PQ} (e:pn u v h tol left k=some l):∃a b r,a=au (cj u h k) left∧b=au (cj v h k) left∧a≠⟨0,0⟩∧b≠⟨0,0⟩∧mU (a.add b) (au u.rot left) (au v.rot left) h k=some r∧¬r<bB ∧
 iq (a.dot (au u.rot left)) (h-tol) ((au u.rot left).dot (au u.rot left))∧iq (((a.add b).scale r).dot (au u.rot left)) (h-tol) ((au u.rot left).dot (au u.rot left)) ∧
 iq (b.dot (au v.rot left)) (h-tol) ((au v.rot left).dot (au v.rot left))∧iq (((a.add b).scale r).dot (au v.rot left)) (h-tol) ((au v.rot left).dot (au v.rot left))∧l=[a,(a.add b).scale r,b]:=by
 rw [yi] at e
 split at e
 ·cases e
 ·rename_i h0
  split at e
  ·cases e
  ·rename_i r hr
   split at e
   ·cases e
   ·rename_i h1
    split at e
    ·rename_i h2
     injection e with e
     exact ⟨_,_,r,rfl,rfl,fun h=>h0 (.inl h),fun h=>h0 (.inr h),hr,h1,h2.1,h2.2.1,h2.2.2.1,h2.2.2.2,e.symm⟩
    ·cases e
theorem C4 {u v:PQ} {h tol:Rat} {left:Bool} {l:List PQ} (hl:iL u v h tol left 4097 0=some l) (hu:u.sz≤1) (hv:v.sz≤1) (hh:sz h≤1):∃a t b,l=[a,t,b]∧a.sz≤10000∧t.sz≤10000∧b.sz≤10000:=by
 obtain ⟨k,_,hk,hq⟩:=mR _ _ hl
 obtain ⟨a,b,r,rfl,rfl,_,_,hr,_,_,_,_,_,e⟩:=qj hq
 have h1:=lc (v:=u) (h:=h) (k:=k) (by omega)
 have h2:=lc (v:=v) (h:=h) (k:=k) (by omega)
 have h3:=cE (cj u h k) left
 have h4:=cE (cj v h k) left
 have h5:=PQ.sz_add (au (cj u h k) left) (au (cj v h k) left)
 have h6:=cE u.rot left
 have h7:=cE v.rot left
 have h8:=PQ.sz_rot u
 have h9:=PQ.sz_rot v
 have h10:=xj hr (by omega) (by omega) (by omega) (by omega) (by omega)
 have h11:=PQ.sz_scale ((au (cj u h k) left).add (au (cj v h k) left)) r
 exact ⟨_,_,_,e,by omega,by omega,by omega⟩
theorem ss {u v:PQ} {h tol:Rat} {left:Bool} {l:List PQ} (hl:lC u v h tol left=some l) (hu:u.sz≤1) (hv:v.sz≤1) (hh:sz h≤1):∃a b,l=[a,b]∧a.sz≤10000∧b.sz≤10000:=by
 obtain ⟨a,b,j,k,e1,e2,e⟩:=mn hl
 have h1:=fY e1 (by omega) (by omega)
 have h2:=fY e2 (by omega) (by omega)
 exact ⟨_,_,e,by rw [cE]; omega,by rw [cE]; omega⟩
theorem CF (p u v:PR) (s:SR) (hp:p.In 1) (hu:u.In 1) (hv:v.In 1) (hs:s.Sml) :
 ag Tryz.prog 185 [p.av,u.av,v.av,s.av] (nP (dl p.val u.val v.val s)):=by
 have zp:=hp.sz
 have zu:=hu.sz
 have zv:=hv.sz
 have zw:=hs.width.sz
 have zt:=hs.tol.sz
 have g1:=gq u hu.mono
 have g2:=gq v hv.mono
 have g3:=Fp s hs.width.mono hs.miter.mono hs.tol.mono
 have k1:=bM 1 2 (by omega) (by omega) (by omega)
 rw [←dc] at k1
 have zh:=fv
 have k2:=dC s.width (qc bB) (hs.width.mono (m:=1000)).sm (c_ (by omega))
 rw [br] at k2
 change ag _ _ [_,rA bB] (rA s.h) at k2
 have k3:=lE p (qc s.h) s.tol hp.mono (fL hs.h).mono hs.tol.mono
 rw [br] at k3
 change ag _ _ [_,rA s.h,_] _ at k3
 have k4:=jI u v hu.mono hv.mono
 have k5:=jx (u.val.cross v.val) (by have:=PQ.sz_cross u.val v.val; omega)
 have z5:=eo (x:=u.val.cross v.val)
 have z6:=iy (x:=u.val.cross v.val)
 have k6:=CY u v s.miter hu.mono hv.mono hs.miter.mono
 have kp:=KW p hp.mono
 have kq:=fun (x:PQ) (hx:x.sz≤10000)=>dY p (pc x) hp.mono (be (by omega))
 simp only [aO] at kq
 refine ag.of_ca (FT _) (Cg Tryz.func185 rfl [.tmp 8,.tmp 9] rfl ?_)
 obtain ⟨RES,hRES⟩:∃R,R=nP (dl p.val u.val v.val s):=⟨_,rfl⟩
 rw [←hRES]
 unfold dl at hRES
 obtain ⟨J,hJ⟩:∃J,J=s.join:=⟨_,rfl⟩
 obtain ⟨H,hH⟩:∃H,H=s.h:=⟨_,rfl⟩
 have hmi:uq s→0≤s.join∧s.join≤2:=fun h=>⟨h.2.2.1,h.2.2.2.1⟩
 rw [←hJ] at hmi hRES
 rw [←hH] at k2 k3 hRES
 have hsav:s.av = .agg [.bool s.width.neg,nA s.width.p,nA s.width.q,.bool s.miter.neg,nA s.miter.p,nA s.miter.q,.int .i64 s.cap,.int .i64 J,.bool s.tol.neg,nA s.tol.p,nA s.tol.q]:=by rw [hJ]; rfl
 rw [hsav] at g3 ⊢
 simp only [bA] at *
 unfold pZ at kp
 unfold PR.av RQ.av at *
 simp -implicitDefEqProofs [go_sem]
 refine ac g1 ?_
 by_cases a1:u.val=⟨0,0⟩
 ·rw [if_pos (.inl a1)] at hRES
  simp -implicitDefEqProofs [go_sem,a1]
  rw [hRES]
  exact Wk.tup (.cons (Wk.nil 0 6 true) (.cons (Wk.refl _) .nil))
 ·simp -implicitDefEqProofs [go_sem,a1]
  refine ac g2 ?_
  by_cases a2:v.val=⟨0,0⟩
  ·rw [if_pos (.inr a2)] at hRES
   simp -implicitDefEqProofs [go_sem,a2]
   rw [hRES]
   exact Wk.tup (.cons (Wk.nil 0 6 true) (.cons (Wk.refl _) .nil))
  ·rw [if_neg (fun h=>h.elim a1 a2)] at hRES
   simp -implicitDefEqProofs [go_sem,a2]
   refine ac g3 ?_
   by_cases a3:uq s
   ·rw [if_neg (fun h=>h a3)] at hRES
    simp -implicitDefEqProofs [go_sem,a3]
    refine aa k1 ?_
    simp -implicitDefEqProofs [go_sem]
    refine aa k2 ?_
    by_cases a4:J=2
    ·rw [if_pos a4] at hRES
     simp -implicitDefEqProofs [go_sem,a4]
     refine ac k3 ?_
     have rX:=iV (mV p.val H s.tol.val).1
     unfold nP at hRES
     rw [hRES]
     generalize pL (mV p.val H s.tol.val).1=X at *
     simp -implicitDefEqProofs [go_sem]
     rw [Ei _ _ rX]
     exact ⟨Du _ _ rX,rX,Wk.refl _⟩
    ·rw [if_neg a4] at hRES
     simp -implicitDefEqProofs [go_sem,a4]
     refine ac k4 ?_
     simp -implicitDefEqProofs [go_sem]
     refine ac k5 ?_
     by_cases a5:u.val.cross v.val=0
     ·rw [if_pos a5] at hRES
      simp -implicitDefEqProofs [go_sem,z5.2 a5,a5,eo.2 (rfl:(0:Rat)=0)]
      rw [hRES]
      exact Wk.tup (.cons (Wk.nil 0 6 true) (.cons (Wk.refl _) .nil))
     ·have a5':¬aM (u.val.cross v.val)=0:=fun hh=>a5 (z5.1 hh)
      rw [if_neg a5] at hRES
      have l1:=pW u hu.mono
      have l2:=pW v hv.mono
      unfold PR.av at l1 l2
      have y1:=PQ.sz_rot u.val
      have y2:=PQ.sz_rot v.val
      have hH0:0<H:=by
       have:=a3.1
       rw [hH]; unfold SR.h bB; grind
      have ht0:0<s.tol.val:=a3.2.1
      have hHs:sz H≤1:=by rw [hH]; exact hs.h
      by_cases a6:u.val.cross v.val<0
      ·rw [decide_eq_true a6] at hRES
       simp only [if_pos a6] at hRES
       simp -implicitDefEqProofs [go_sem,a5',a5,z6.2 a6,a6]
       have m1:=kF u.val.rot
       have m2:=kF v.val.rot
       simp only [aQ] at *
       refine Cg Tryz.func240 rfl [] rfl ?_
       simp -implicitDefEqProofs [go_sem,dA,dw]
       refine aa l1 ?_
       simp -implicitDefEqProofs [go_sem,dA,dw]
       refine aa m1 ?_
       simp -implicitDefEqProofs [go_sem,dA,dw]
       refine aa l2 ?_
       simp -implicitDefEqProofs [go_sem,dA,dw]
       refine aa m2 ?_
       by_cases b1:J=0
       ·simp -implicitDefEqProofs [go_sem,b1]
        refine ac k6 ?_
        by_cases b2:fe u.val v.val s.miter.val
        ·have hout:qb u.val v.val s.miter.val H s.tol.val J true=iL u.val v.val H s.tol.val true 4097 0:=if_pos ⟨b1,b2⟩
         simp -implicitDefEqProofs [go_sem,b2]
         cases ho:iL u.val v.val H s.tol.val true 4097 0 with
         | none =>
          rw [ho] at hout
          refine jc 10 31 (cd u v (au u.val.rot true) (au v.val.rot true) H s.tol (dH true 10)) _ (by simp -implicitDefEqProofs [go_sem,cd,dH,au,PQ.neg,dA,dw]) (dX (fw true 10)) (dh _ _ _ _ _ _ _ (cZ true)) _ (Bb u v H s.tol true hu hv a1 a2 hHs hH0 hs.tol ho) ?_
          simp -implicitDefEqProofs [go_sem]
          rw [hRES,hout]
          exact Wk.tup (.cons (Wk.nil 0 6 true) (.cons (Wk.refl _) .nil))
         | some l =>
          rw [ho] at hout
          refine mz 10 31 (cd u v (au u.val.rot true) (au v.val.rot true) H s.tol (dH true 10)) _ (by simp -implicitDefEqProofs [go_sem,cd,dH,au,PQ.neg,dA,dw]) (dX (fw true 10)) (dh _ _ _ _ _ _ _ (cZ true)) (IP u v H s.tol true hu hv a1 a2 hHs hH0 hs.tol ho) fun m l' hm=>?_
          obtain ⟨rfl,rfl⟩:=hm
          obtain ⟨a,tt,b,rfl,za,ztt,zb⟩:=C4 ho (by omega) (by omega) (by omega)
          rw [hout] at hRES
          simp -implicitDefEqProofs [go_sem,z6.2 a6]
          refine rD 39 (Ir a tt b) (by simp -implicitDefEqProofs [go_sem]) (by simp -implicitDefEqProofs [go_sem,aQ]) (by simp -implicitDefEqProofs [go_sem,bW]) (by simp -implicitDefEqProofs [go_sem,bW]) (by simp -implicitDefEqProofs [go_sem]) (.inl (by simp -implicitDefEqProofs [go_sem])) ?_
          simp -implicitDefEqProofs [go_sem]
          refine ac kp ?_
          simp -implicitDefEqProofs [go_sem]
          obtain ⟨X,hX⟩:∃X:Nat→PQ,X=fun i=>List.getD [b,tt,a] i ⟨0,0⟩:=⟨_,rfl⟩
          obtain ⟨O,hO⟩:∃O:Nat→List AV,O=fun i=>(p.val::(List.range i).map fun j=>p.val.add (X j)).map pA:=⟨_,rfl⟩
          have hOr:∀i,roL (O i):=fun i=>by rw [hO]; exact bK _
          have hOl:∀i,(O i).length=i+1:=fun i=>by rw [hO]; simp
          have hO0:O 0=[.agg (pC p.val)]:=by rw [hO]; rfl
          have hOs:∀i,O (i+1)=O i++[.agg (pC (p.val.add (X i)))]:=fun i=>by rw [hO]; simp [List.range_succ,aQ]
          have hOm:RES = .tup [.sl 6 false (O 3),.int .i64 0]:=by rw [hRES,hO,hX]; rfl
          rw [hOm]
          have hXi:∀i:Nat,i<3→([.agg (pC b),.agg (pC tt),.agg (pC a)]:List AV)[i]?.getD .any = .agg (pC (X i)):=fun i hi=>by
           rcases (show i=0∨i=1∨i=2 by omega) with rfl|rfl|rfl<;>(rw [hX]; rfl)
          have hXs:∀i:Nat,i<3→(X i).sz≤10000:=fun i hi=>by
           rw [hX]
           rcases (show i=0∨i=1∨i=2 by omega) with rfl|rfl|rfl
           ·exact zb
           ·exact ztt
           ·exact za
          clear hO hX hRES hOm
          refine ap 3 (α:={i:Nat // i≤3}) (fun i=>[(4,.ptr 0 0 0),(16,di 6 2 (O i.1)),(91,.own 6 1 0 3),(92,.int .i64 3),(93,.int .i64 i.1)])
           (fun i=>(0,.live 6 [.agg [.bool p.x.neg,nA p.x.p,nA p.x.q,.bool p.y.neg,nA p.y.p,nA p.y.q]])::(1,.live 6 [.agg (pC b),.agg (pC tt),.agg (pC a)])::cR 6 2 (O i.1)) (fun i=>3-i.1) ⟨0,by omega⟩ [(1,39),(2,40)] (by simp) (by simp [hO0,cR,nm]) (by omega) (by simp -implicitDefEqProofs [go_sem,hO0]; rfl) (by simp -implicitDefEqProofs [go_sem,hO0,aQ]) fun ⟨i,hi⟩=>?_
          have hne:O i≠[]:=fun h=>by have:=hOl i; rw [h] at this; simp at this
          have hb:Go.Proofs.YtdnmfaljidjijaaGreat.hp 3 (cR 6 2 (O i)) 2 = .live 6 (O i):=by rw [aC hne]; simp [Go.Proofs.YtdnmfaljidjijaaGreat.hp,aH]
          have hl:=hOl i
          have hs':=hOs i
          have hr0:=hOr i
          have hr1:=hOr (i+1)
          simp -implicitDefEqProofs [go_sem]
          refine ⟨fun h=>?_,fun h=>?_⟩
          ·have es:=wS i (by omega)
           have hg:=hXi i (by omega)
           have kx:=kq (X i) (hXs i (by omega))
           simp -implicitDefEqProofs [go_sem,hg]
           refine ⟨by omega,by omega,ac kx ?_⟩
           simp -implicitDefEqProofs [go_sem]
           refine aI (.inl rfl) (by omega) (by omega) (by simp -implicitDefEqProofs [go_sem]) (by simp [hl]<;>omega) (fun h=>hb) ?_
           simp -implicitDefEqProofs [go_sem,es]
           have hn1:O (i+1)≠[]:=by rw [hs']; simp
           rw [hs'] at hr1
           have u1:=(renL_ro (nm [(2,5)]) _ hr1).symm
           have u2:=cloL_ro (n:=3) _ hr1
           have hl1:(O (i+1)).length=(O i).length+1:=by rw [hs']; simp
           exact ae ⟨i+1,by omega⟩ (by simp only; omega) [(2,5)] (by simp) (by simp only [aC hn1]; simp [nm]) (by simp) (by simp only [aV hn1,hl1]; simp -implicitDefEqProofs [go_sem,es]) (by simp only [aC hn1,hs']; simp -implicitDefEqProofs [go_sem,←u1,u2])
          ·have:i=3:=by omega
           subst this
           have ht:(O 3).take 4=O 3:=List.take_of_length_le (by omega)
           have hap:=aV (sz:=6) (id:=2) hne
           rw [hap,aC hne,hl]
           simp -implicitDefEqProofs [go_sem,hl,ht]
           exact ⟨hr0,Wk.refl _⟩
        ·have hout:qb u.val v.val s.miter.val H s.tol.val J true=lC u.val v.val H s.tol.val true:=if_neg fun h=>b2 h.2
         simp -implicitDefEqProofs [go_sem,b2]
         cases ho:lC u.val v.val H s.tol.val true with
         | none =>
          rw [ho] at hout
          refine jc 10 31 (cd u v (au u.val.rot true) (au v.val.rot true) H s.tol (dH true 10)) _ (by simp -implicitDefEqProofs [go_sem,cd,dH,au,PQ.neg,dA,dw]) (dX (fw true 10)) (dh _ _ _ _ _ _ _ (cZ true)) _ (oy u v _ _ H s.tol true hu.mono hv.mono a1 a2 (by omega) hH0 hs.tol.mono ht0 ho) ?_
          simp -implicitDefEqProofs [go_sem]
          rw [hRES,hout]
          exact Wk.tup (.cons (Wk.nil 0 6 true) (.cons (Wk.refl _) .nil))
         | some l =>
          rw [ho] at hout
          refine mz 10 31 (cd u v (au u.val.rot true) (au v.val.rot true) H s.tol (dH true 10)) _ (by simp -implicitDefEqProofs [go_sem,cd,dH,au,PQ.neg,dA,dw]) (dX (fw true 10)) (dh _ _ _ _ _ _ _ (cZ true)) (wZ u v _ _ H s.tol true hu.mono hv.mono a1 a2 (by omega) hH0 hs.tol.mono ht0 ho) fun m l' hm=>?_
          obtain ⟨rfl,rfl⟩:=hm
          obtain ⟨a,b,rfl,za,zb⟩:=ss ho (by omega) (by omega) (by omega)
          rw [hout] at hRES
          simp -implicitDefEqProofs [go_sem,z6.2 a6]
          refine rD 39 (AM a b) (by simp -implicitDefEqProofs [go_sem]) (by simp -implicitDefEqProofs [go_sem,aQ]) (by simp -implicitDefEqProofs [go_sem,bW]) (by simp -implicitDefEqProofs [go_sem,bW]) (by simp -implicitDefEqProofs [go_sem]) (.inl (by simp -implicitDefEqProofs [go_sem])) ?_
          simp -implicitDefEqProofs [go_sem]
          refine ac kp ?_
          simp -implicitDefEqProofs [go_sem]
          obtain ⟨X,hX⟩:∃X:Nat→PQ,X=fun i=>List.getD [b,a] i ⟨0,0⟩:=⟨_,rfl⟩
          obtain ⟨O,hO⟩:∃O:Nat→List AV,O=fun i=>(p.val::(List.range i).map fun j=>p.val.add (X j)).map pA:=⟨_,rfl⟩
          have hOr:∀i,roL (O i):=fun i=>by rw [hO]; exact bK _
          have hOl:∀i,(O i).length=i+1:=fun i=>by rw [hO]; simp
          have hO0:O 0=[.agg (pC p.val)]:=by rw [hO]; rfl
          have hOs:∀i,O (i+1)=O i++[.agg (pC (p.val.add (X i)))]:=fun i=>by rw [hO]; simp [List.range_succ,aQ]
          have hOm:RES = .tup [.sl 6 false (O 2),.int .i64 0]:=by rw [hRES,hO,hX]; rfl
          rw [hOm]
          have hXi:∀i:Nat,i<2→([.agg (pC b),.agg (pC a)]:List AV)[i]?.getD .any = .agg (pC (X i)):=fun i hi=>by
           rcases (show i=0∨i=1 by omega) with rfl|rfl<;>(rw [hX]; rfl)
          have hXs:∀i:Nat,i<2→(X i).sz≤10000:=fun i hi=>by
           rw [hX]
           rcases (show i=0∨i=1 by omega) with rfl|rfl
           ·exact zb
           ·exact za
          clear hO hX hRES hOm
          refine ap 3 (α:={i:Nat // i≤2}) (fun i=>[(4,.ptr 0 0 0),(16,di 6 2 (O i.1)),(91,.own 6 1 0 2),(92,.int .i64 2),(93,.int .i64 i.1)])
           (fun i=>(0,.live 6 [.agg [.bool p.x.neg,nA p.x.p,nA p.x.q,.bool p.y.neg,nA p.y.p,nA p.y.q]])::(1,.live 6 [.agg (pC b),.agg (pC a)])::cR 6 2 (O i.1)) (fun i=>2-i.1) ⟨0,by omega⟩ [(1,39),(2,40)] (by simp) (by simp [hO0,cR,nm]) (by omega) (by simp -implicitDefEqProofs [go_sem,hO0]; rfl) (by simp -implicitDefEqProofs [go_sem,hO0,aQ]) fun ⟨i,hi⟩=>?_
          have hne:O i≠[]:=fun h=>by have:=hOl i; rw [h] at this; simp at this
          have hb:Go.Proofs.YtdnmfaljidjijaaGreat.hp 3 (cR 6 2 (O i)) 2 = .live 6 (O i):=by rw [aC hne]; simp [Go.Proofs.YtdnmfaljidjijaaGreat.hp,aH]
          have hl:=hOl i
          have hs':=hOs i
          have hr0:=hOr i
          have hr1:=hOr (i+1)
          simp -implicitDefEqProofs [go_sem]
          refine ⟨fun h=>?_,fun h=>?_⟩
          ·have es:=wS i (by omega)
           have hg:=hXi i (by omega)
           have kx:=kq (X i) (hXs i (by omega))
           simp -implicitDefEqProofs [go_sem,hg]
           refine ⟨by omega,by omega,ac kx ?_⟩
           simp -implicitDefEqProofs [go_sem]
           refine aI (.inl rfl) (by omega) (by omega) (by simp -implicitDefEqProofs [go_sem]) (by simp [hl]<;>omega) (fun h=>hb) ?_
           simp -implicitDefEqProofs [go_sem,es]
           have hn1:O (i+1)≠[]:=by rw [hs']; simp
           rw [hs'] at hr1
           have u1:=(renL_ro (nm [(2,5)]) _ hr1).symm
           have u2:=cloL_ro (n:=3) _ hr1
           have hl1:(O (i+1)).length=(O i).length+1:=by rw [hs']; simp
           exact ae ⟨i+1,by omega⟩ (by simp only; omega) [(2,5)] (by simp) (by simp only [aC hn1]; simp [nm]) (by simp) (by simp only [aV hn1,hl1]; simp -implicitDefEqProofs [go_sem,es]) (by simp only [aC hn1,hs']; simp -implicitDefEqProofs [go_sem,←u1,u2])
          ·have:i=2:=by omega
           subst this
           have ht:(O 2).take 3=O 2:=List.take_of_length_le (by omega)
           have hap:=aV (sz:=6) (id:=2) hne
           rw [hap,aC hne,hl]
           simp -implicitDefEqProofs [go_sem,hl,ht]
           exact ⟨hr0,Wk.refl _⟩
       ·have hout:qb u.val v.val s.miter.val H s.tol.val J true=lC u.val v.val H s.tol.val true:=if_neg fun h=>b1 h.1
        simp -implicitDefEqProofs [go_sem,b1]
        cases ho:lC u.val v.val H s.tol.val true with
        | none =>
         rw [ho] at hout
         refine jc 10 31 (cd u v (au u.val.rot true) (au v.val.rot true) H s.tol (dH true 10)) _ (by simp -implicitDefEqProofs [go_sem,cd,dH,au,PQ.neg,dA,dw]) (dX (fw true 10)) (dh _ _ _ _ _ _ _ (cZ true)) _ (oy u v _ _ H s.tol true hu.mono hv.mono a1 a2 (by omega) hH0 hs.tol.mono ht0 ho) ?_
         simp -implicitDefEqProofs [go_sem]
         rw [hRES,hout]
         exact Wk.tup (.cons (Wk.nil 0 6 true) (.cons (Wk.refl _) .nil))
        | some l =>
         rw [ho] at hout
         refine mz 10 31 (cd u v (au u.val.rot true) (au v.val.rot true) H s.tol (dH true 10)) _ (by simp -implicitDefEqProofs [go_sem,cd,dH,au,PQ.neg,dA,dw]) (dX (fw true 10)) (dh _ _ _ _ _ _ _ (cZ true)) (wZ u v _ _ H s.tol true hu.mono hv.mono a1 a2 (by omega) hH0 hs.tol.mono ht0 ho) fun m l' hm=>?_
         obtain ⟨rfl,rfl⟩:=hm
         obtain ⟨a,b,rfl,za,zb⟩:=ss ho (by omega) (by omega) (by omega)
         rw [hout] at hRES
         simp -implicitDefEqProofs [go_sem,z6.2 a6]
         refine rD 39 (AM a b) (by simp -implicitDefEqProofs [go_sem]) (by simp -implicitDefEqProofs [go_sem,aQ]) (by simp -implicitDefEqProofs [go_sem,bW]) (by simp -implicitDefEqProofs [go_sem,bW]) (by simp -implicitDefEqProofs [go_sem]) (.inl (by simp -implicitDefEqProofs [go_sem])) ?_
         simp -implicitDefEqProofs [go_sem]
         refine ac kp ?_
         simp -implicitDefEqProofs [go_sem]
         obtain ⟨X,hX⟩:∃X:Nat→PQ,X=fun i=>List.getD [b,a] i ⟨0,0⟩:=⟨_,rfl⟩
         obtain ⟨O,hO⟩:∃O:Nat→List AV,O=fun i=>(p.val::(List.range i).map fun j=>p.val.add (X j)).map pA:=⟨_,rfl⟩
         have hOr:∀i,roL (O i):=fun i=>by rw [hO]; exact bK _
         have hOl:∀i,(O i).length=i+1:=fun i=>by rw [hO]; simp
         have hO0:O 0=[.agg (pC p.val)]:=by rw [hO]; rfl
         have hOs:∀i,O (i+1)=O i++[.agg (pC (p.val.add (X i)))]:=fun i=>by rw [hO]; simp [List.range_succ,aQ]
         have hOm:RES = .tup [.sl 6 false (O 2),.int .i64 0]:=by rw [hRES,hO,hX]; rfl
         rw [hOm]
         have hXi:∀i:Nat,i<2→([.agg (pC b),.agg (pC a)]:List AV)[i]?.getD .any = .agg (pC (X i)):=fun i hi=>by
          rcases (show i=0∨i=1 by omega) with rfl|rfl<;>(rw [hX]; rfl)
         have hXs:∀i:Nat,i<2→(X i).sz≤10000:=fun i hi=>by
          rw [hX]
          rcases (show i=0∨i=1 by omega) with rfl|rfl
          ·exact zb
          ·exact za
         clear hO hX hRES hOm
         refine ap 3 (α:={i:Nat // i≤2}) (fun i=>[(4,.ptr 0 0 0),(16,di 6 2 (O i.1)),(91,.own 6 1 0 2),(92,.int .i64 2),(93,.int .i64 i.1)])
          (fun i=>(0,.live 6 [.agg [.bool p.x.neg,nA p.x.p,nA p.x.q,.bool p.y.neg,nA p.y.p,nA p.y.q]])::(1,.live 6 [.agg (pC b),.agg (pC a)])::cR 6 2 (O i.1)) (fun i=>2-i.1) ⟨0,by omega⟩ [(1,39),(2,40)] (by simp) (by simp [hO0,cR,nm]) (by omega) (by simp -implicitDefEqProofs [go_sem,hO0]; rfl) (by simp -implicitDefEqProofs [go_sem,hO0,aQ]) fun ⟨i,hi⟩=>?_
         have hne:O i≠[]:=fun h=>by have:=hOl i; rw [h] at this; simp at this
         have hb:Go.Proofs.YtdnmfaljidjijaaGreat.hp 3 (cR 6 2 (O i)) 2 = .live 6 (O i):=by rw [aC hne]; simp [Go.Proofs.YtdnmfaljidjijaaGreat.hp,aH]
         have hl:=hOl i
         have hs':=hOs i
         have hr0:=hOr i
         have hr1:=hOr (i+1)
         simp -implicitDefEqProofs [go_sem]
         refine ⟨fun h=>?_,fun h=>?_⟩
         ·have es:=wS i (by omega)
          have hg:=hXi i (by omega)
          have kx:=kq (X i) (hXs i (by omega))
          simp -implicitDefEqProofs [go_sem,hg]
          refine ⟨by omega,by omega,ac kx ?_⟩
          simp -implicitDefEqProofs [go_sem]
          refine aI (.inl rfl) (by omega) (by omega) (by simp -implicitDefEqProofs [go_sem]) (by simp [hl]<;>omega) (fun h=>hb) ?_
          simp -implicitDefEqProofs [go_sem,es]
          have hn1:O (i+1)≠[]:=by rw [hs']; simp
          rw [hs'] at hr1
          have u1:=(renL_ro (nm [(2,5)]) _ hr1).symm
          have u2:=cloL_ro (n:=3) _ hr1
          have hl1:(O (i+1)).length=(O i).length+1:=by rw [hs']; simp
          exact ae ⟨i+1,by omega⟩ (by simp only; omega) [(2,5)] (by simp) (by simp only [aC hn1]; simp [nm]) (by simp) (by simp only [aV hn1,hl1]; simp -implicitDefEqProofs [go_sem,es]) (by simp only [aC hn1,hs']; simp -implicitDefEqProofs [go_sem,←u1,u2])
         ·have:i=2:=by omega
          subst this
          have ht:(O 2).take 3=O 2:=List.take_of_length_le (by omega)
          have hap:=aV (sz:=6) (id:=2) hne
          rw [hap,aC hne,hl]
          simp -implicitDefEqProofs [go_sem,hl,ht]
          exact ⟨hr0,Wk.refl _⟩
      ·have a6':¬aM (u.val.cross v.val)<0:=fun hh=>a6 (z6.1 hh)
       rw [decide_eq_false a6] at hRES
       simp only [if_neg a6] at hRES
       simp -implicitDefEqProofs [go_sem,a5',a5,a6',a6]
       have m1:=jw u.val.rot (by omega)
       have m2:=jw v.val.rot (by omega)
       simp only [aQ] at *
       refine Cg Tryz.func240 rfl [] rfl ?_
       simp -implicitDefEqProofs [go_sem,dA,dw]
       refine aa l1 ?_
       simp -implicitDefEqProofs [go_sem,dA,dw]
       refine Hk _ m1 (.cons (Wk.any _) (.cons (Wk.refl _) .nil)) (by simp -implicitDefEqProofs [go_sem,bW]) ?_
       simp -implicitDefEqProofs [go_sem,dA,dw]
       refine aa l2 ?_
       simp -implicitDefEqProofs [go_sem,dA,dw]
       refine Hk _ m2 (.cons (Wk.any _) (.cons (Wk.refl _) .nil)) (by simp -implicitDefEqProofs [go_sem,bW]) ?_
       by_cases b1:J=0
       ·simp -implicitDefEqProofs [go_sem,b1]
        refine ac k6 ?_
        by_cases b2:fe u.val v.val s.miter.val
        ·have hout:qb u.val v.val s.miter.val H s.tol.val J false=iL u.val v.val H s.tol.val false 4097 0:=if_pos ⟨b1,b2⟩
         simp -implicitDefEqProofs [go_sem,b2]
         cases ho:iL u.val v.val H s.tol.val false 4097 0 with
         | none =>
          rw [ho] at hout
          refine jc 10 31 (cd u v (au u.val.rot false) (au v.val.rot false) H s.tol (dH false 10)) _ (by simp -implicitDefEqProofs [go_sem,cd,dH,au,PQ.neg,dA,dw]) (dX (fw false 10)) (dh _ _ _ _ _ _ _ (cZ false)) _ (Bb u v H s.tol false hu hv a1 a2 hHs hH0 hs.tol ho) ?_
          simp -implicitDefEqProofs [go_sem]
          rw [hRES,hout]
          exact Wk.tup (.cons (Wk.nil 0 6 true) (.cons (Wk.refl _) .nil))
         | some l =>
          rw [ho] at hout
          refine mz 10 31 (cd u v (au u.val.rot false) (au v.val.rot false) H s.tol (dH false 10)) _ (by simp -implicitDefEqProofs [go_sem,cd,dH,au,PQ.neg,dA,dw]) (dX (fw false 10)) (dh _ _ _ _ _ _ _ (cZ false)) (IP u v H s.tol false hu hv a1 a2 hHs hH0 hs.tol ho) fun m l' hm=>?_
          obtain ⟨rfl,rfl⟩:=hm
          obtain ⟨a,tt,b,rfl,za,ztt,zb⟩:=C4 ho (by omega) (by omega) (by omega)
          rw [hout] at hRES
          simp -implicitDefEqProofs [go_sem,a6']
          refine ac kp ?_
          simp -implicitDefEqProofs [go_sem]
          obtain ⟨X,hX⟩:∃X:Nat→PQ,X=fun i=>List.getD [a,tt,b] i ⟨0,0⟩:=⟨_,rfl⟩
          obtain ⟨O,hO⟩:∃O:Nat→List AV,O=fun i=>(p.val::(List.range i).map fun j=>p.val.add (X j)).map pA:=⟨_,rfl⟩
          have hOr:∀i,roL (O i):=fun i=>by rw [hO]; exact bK _
          have hOl:∀i,(O i).length=i+1:=fun i=>by rw [hO]; simp
          have hO0:O 0=[.agg (pC p.val)]:=by rw [hO]; rfl
          have hOs:∀i,O (i+1)=O i++[.agg (pC (p.val.add (X i)))]:=fun i=>by rw [hO]; simp [List.range_succ,aQ]
          have hOm:RES = .tup [.sl 6 false (O 3),.int .i64 0]:=by rw [hRES,hO,hX]; rfl
          rw [hOm]
          have hXi:∀i:Nat,i<3→([.agg (pC a),.agg (pC tt),.agg (pC b)]:List AV)[i]?.getD .any = .agg (pC (X i)):=fun i hi=>by
           rcases (show i=0∨i=1∨i=2 by omega) with rfl|rfl|rfl<;>(rw [hX]; rfl)
          have hXs:∀i:Nat,i<3→(X i).sz≤10000:=fun i hi=>by
           rw [hX]
           rcases (show i=0∨i=1∨i=2 by omega) with rfl|rfl|rfl
           ·exact za
           ·exact ztt
           ·exact zb
          clear hO hX hRES hOm
          refine ap 3 (α:={i:Nat // i≤3}) (fun i=>[(4,.ptr 0 0 0),(16,di 6 2 (O i.1)),(91,.own 6 1 0 3),(92,.int .i64 3),(93,.int .i64 i.1)])
           (fun i=>(0,.live 6 [.agg [.bool p.x.neg,nA p.x.p,nA p.x.q,.bool p.y.neg,nA p.y.p,nA p.y.q]])::(1,.live 6 [.agg (pC a),.agg (pC tt),.agg (pC b)])::cR 6 2 (O i.1)) (fun i=>3-i.1) ⟨0,by omega⟩ [(1,39),(2,40)] (by simp) (by simp [hO0,cR,nm]) (by omega) (by simp -implicitDefEqProofs [go_sem,hO0]; rfl) (by simp -implicitDefEqProofs [go_sem,hO0,aQ]) fun ⟨i,hi⟩=>?_
          have hne:O i≠[]:=fun h=>by have:=hOl i; rw [h] at this; simp at this
          have hb:Go.Proofs.YtdnmfaljidjijaaGreat.hp 3 (cR 6 2 (O i)) 2 = .live 6 (O i):=by rw [aC hne]; simp [Go.Proofs.YtdnmfaljidjijaaGreat.hp,aH]
          have hl:=hOl i
          have hs':=hOs i
          have hr0:=hOr i
          have hr1:=hOr (i+1)
          simp -implicitDefEqProofs [go_sem]
          refine ⟨fun h=>?_,fun h=>?_⟩
          ·have es:=wS i (by omega)
           have hg:=hXi i (by omega)
           have kx:=kq (X i) (hXs i (by omega))
           simp -implicitDefEqProofs [go_sem,hg]
           refine ⟨by omega,by omega,ac kx ?_⟩
           simp -implicitDefEqProofs [go_sem]
           refine aI (.inl rfl) (by omega) (by omega) (by simp -implicitDefEqProofs [go_sem]) (by simp [hl]<;>omega) (fun h=>hb) ?_
           simp -implicitDefEqProofs [go_sem,es]
           have hn1:O (i+1)≠[]:=by rw [hs']; simp
           rw [hs'] at hr1
           have u1:=(renL_ro (nm [(2,5)]) _ hr1).symm
           have u2:=cloL_ro (n:=3) _ hr1
           have hl1:(O (i+1)).length=(O i).length+1:=by rw [hs']; simp
           exact ae ⟨i+1,by omega⟩ (by simp only; omega) [(2,5)] (by simp) (by simp only [aC hn1]; simp [nm]) (by simp) (by simp only [aV hn1,hl1]; simp -implicitDefEqProofs [go_sem,es]) (by simp only [aC hn1,hs']; simp -implicitDefEqProofs [go_sem,←u1,u2])
          ·have:i=3:=by omega
           subst this
           have ht:(O 3).take 4=O 3:=List.take_of_length_le (by omega)
           have hap:=aV (sz:=6) (id:=2) hne
           rw [hap,aC hne,hl]
           simp -implicitDefEqProofs [go_sem,hl,ht]
           exact ⟨hr0,Wk.refl _⟩
        ·have hout:qb u.val v.val s.miter.val H s.tol.val J false=lC u.val v.val H s.tol.val false:=if_neg fun h=>b2 h.2
         simp -implicitDefEqProofs [go_sem,b2]
         cases ho:lC u.val v.val H s.tol.val false with
         | none =>
          rw [ho] at hout
          refine jc 10 31 (cd u v (au u.val.rot false) (au v.val.rot false) H s.tol (dH false 10)) _ (by simp -implicitDefEqProofs [go_sem,cd,dH,au,PQ.neg,dA,dw]) (dX (fw false 10)) (dh _ _ _ _ _ _ _ (cZ false)) _ (oy u v _ _ H s.tol false hu.mono hv.mono a1 a2 (by omega) hH0 hs.tol.mono ht0 ho) ?_
          simp -implicitDefEqProofs [go_sem]
          rw [hRES,hout]
          exact Wk.tup (.cons (Wk.nil 0 6 true) (.cons (Wk.refl _) .nil))
         | some l =>
          rw [ho] at hout
          refine mz 10 31 (cd u v (au u.val.rot false) (au v.val.rot false) H s.tol (dH false 10)) _ (by simp -implicitDefEqProofs [go_sem,cd,dH,au,PQ.neg,dA,dw]) (dX (fw false 10)) (dh _ _ _ _ _ _ _ (cZ false)) (wZ u v _ _ H s.tol false hu.mono hv.mono a1 a2 (by omega) hH0 hs.tol.mono ht0 ho) fun m l' hm=>?_
          obtain ⟨rfl,rfl⟩:=hm
          obtain ⟨a,b,rfl,za,zb⟩:=ss ho (by omega) (by omega) (by omega)
          rw [hout] at hRES
          simp -implicitDefEqProofs [go_sem,a6']
          refine ac kp ?_
          simp -implicitDefEqProofs [go_sem]
          obtain ⟨X,hX⟩:∃X:Nat→PQ,X=fun i=>List.getD [a,b] i ⟨0,0⟩:=⟨_,rfl⟩
          obtain ⟨O,hO⟩:∃O:Nat→List AV,O=fun i=>(p.val::(List.range i).map fun j=>p.val.add (X j)).map pA:=⟨_,rfl⟩
          have hOr:∀i,roL (O i):=fun i=>by rw [hO]; exact bK _
          have hOl:∀i,(O i).length=i+1:=fun i=>by rw [hO]; simp
          have hO0:O 0=[.agg (pC p.val)]:=by rw [hO]; rfl
          have hOs:∀i,O (i+1)=O i++[.agg (pC (p.val.add (X i)))]:=fun i=>by rw [hO]; simp [List.range_succ,aQ]
          have hOm:RES = .tup [.sl 6 false (O 2),.int .i64 0]:=by rw [hRES,hO,hX]; rfl
          rw [hOm]
          have hXi:∀i:Nat,i<2→([.agg (pC a),.agg (pC b)]:List AV)[i]?.getD .any = .agg (pC (X i)):=fun i hi=>by
           rcases (show i=0∨i=1 by omega) with rfl|rfl<;>(rw [hX]; rfl)
          have hXs:∀i:Nat,i<2→(X i).sz≤10000:=fun i hi=>by
           rw [hX]
           rcases (show i=0∨i=1 by omega) with rfl|rfl
           ·exact za
           ·exact zb
          clear hO hX hRES hOm
          refine ap 3 (α:={i:Nat // i≤2}) (fun i=>[(4,.ptr 0 0 0),(16,di 6 2 (O i.1)),(91,.own 6 1 0 2),(92,.int .i64 2),(93,.int .i64 i.1)])
           (fun i=>(0,.live 6 [.agg [.bool p.x.neg,nA p.x.p,nA p.x.q,.bool p.y.neg,nA p.y.p,nA p.y.q]])::(1,.live 6 [.agg (pC a),.agg (pC b)])::cR 6 2 (O i.1)) (fun i=>2-i.1) ⟨0,by omega⟩ [(1,39),(2,40)] (by simp) (by simp [hO0,cR,nm]) (by omega) (by simp -implicitDefEqProofs [go_sem,hO0]; rfl) (by simp -implicitDefEqProofs [go_sem,hO0,aQ]) fun ⟨i,hi⟩=>?_
          have hne:O i≠[]:=fun h=>by have:=hOl i; rw [h] at this; simp at this
          have hb:Go.Proofs.YtdnmfaljidjijaaGreat.hp 3 (cR 6 2 (O i)) 2 = .live 6 (O i):=by rw [aC hne]; simp [Go.Proofs.YtdnmfaljidjijaaGreat.hp,aH]
          have hl:=hOl i
          have hs':=hOs i
          have hr0:=hOr i
          have hr1:=hOr (i+1)
          simp -implicitDefEqProofs [go_sem]
          refine ⟨fun h=>?_,fun h=>?_⟩
          ·have es:=wS i (by omega)
           have hg:=hXi i (by omega)
           have kx:=kq (X i) (hXs i (by omega))
           simp -implicitDefEqProofs [go_sem,hg]
           refine ⟨by omega,by omega,ac kx ?_⟩
           simp -implicitDefEqProofs [go_sem]
           refine aI (.inl rfl) (by omega) (by omega) (by simp -implicitDefEqProofs [go_sem]) (by simp [hl]<;>omega) (fun h=>hb) ?_
           simp -implicitDefEqProofs [go_sem,es]
           have hn1:O (i+1)≠[]:=by rw [hs']; simp
           rw [hs'] at hr1
           have u1:=(renL_ro (nm [(2,5)]) _ hr1).symm
           have u2:=cloL_ro (n:=3) _ hr1
           have hl1:(O (i+1)).length=(O i).length+1:=by rw [hs']; simp
           exact ae ⟨i+1,by omega⟩ (by simp only; omega) [(2,5)] (by simp) (by simp only [aC hn1]; simp [nm]) (by simp) (by simp only [aV hn1,hl1]; simp -implicitDefEqProofs [go_sem,es]) (by simp only [aC hn1,hs']; simp -implicitDefEqProofs [go_sem,←u1,u2])
          ·have:i=2:=by omega
           subst this
           have ht:(O 2).take 3=O 2:=List.take_of_length_le (by omega)
           have hap:=aV (sz:=6) (id:=2) hne
           rw [hap,aC hne,hl]
           simp -implicitDefEqProofs [go_sem,hl,ht]
           exact ⟨hr0,Wk.refl _⟩
       ·have hout:qb u.val v.val s.miter.val H s.tol.val J false=lC u.val v.val H s.tol.val false:=if_neg fun h=>b1 h.1
        simp -implicitDefEqProofs [go_sem,b1]
        cases ho:lC u.val v.val H s.tol.val false with
        | none =>
         rw [ho] at hout
         refine jc 10 31 (cd u v (au u.val.rot false) (au v.val.rot false) H s.tol (dH false 10)) _ (by simp -implicitDefEqProofs [go_sem,cd,dH,au,PQ.neg,dA,dw]) (dX (fw false 10)) (dh _ _ _ _ _ _ _ (cZ false)) _ (oy u v _ _ H s.tol false hu.mono hv.mono a1 a2 (by omega) hH0 hs.tol.mono ht0 ho) ?_
         simp -implicitDefEqProofs [go_sem]
         rw [hRES,hout]
         exact Wk.tup (.cons (Wk.nil 0 6 true) (.cons (Wk.refl _) .nil))
        | some l =>
         rw [ho] at hout
         refine mz 10 31 (cd u v (au u.val.rot false) (au v.val.rot false) H s.tol (dH false 10)) _ (by simp -implicitDefEqProofs [go_sem,cd,dH,au,PQ.neg,dA,dw]) (dX (fw false 10)) (dh _ _ _ _ _ _ _ (cZ false)) (wZ u v _ _ H s.tol false hu.mono hv.mono a1 a2 (by omega) hH0 hs.tol.mono ht0 ho) fun m l' hm=>?_
         obtain ⟨rfl,rfl⟩:=hm
         obtain ⟨a,b,rfl,za,zb⟩:=ss ho (by omega) (by omega) (by omega)
         rw [hout] at hRES
         simp -implicitDefEqProofs [go_sem,a6']
         refine ac kp ?_
         simp -implicitDefEqProofs [go_sem]
         obtain ⟨X,hX⟩:∃X:Nat→PQ,X=fun i=>List.getD [a,b] i ⟨0,0⟩:=⟨_,rfl⟩
         obtain ⟨O,hO⟩:∃O:Nat→List AV,O=fun i=>(p.val::(List.range i).map fun j=>p.val.add (X j)).map pA:=⟨_,rfl⟩
         have hOr:∀i,roL (O i):=fun i=>by rw [hO]; exact bK _
         have hOl:∀i,(O i).length=i+1:=fun i=>by rw [hO]; simp
         have hO0:O 0=[.agg (pC p.val)]:=by rw [hO]; rfl
         have hOs:∀i,O (i+1)=O i++[.agg (pC (p.val.add (X i)))]:=fun i=>by rw [hO]; simp [List.range_succ,aQ]
         have hOm:RES = .tup [.sl 6 false (O 2),.int .i64 0]:=by rw [hRES,hO,hX]; rfl
         rw [hOm]
         have hXi:∀i:Nat,i<2→([.agg (pC a),.agg (pC b)]:List AV)[i]?.getD .any = .agg (pC (X i)):=fun i hi=>by
          rcases (show i=0∨i=1 by omega) with rfl|rfl<;>(rw [hX]; rfl)
         have hXs:∀i:Nat,i<2→(X i).sz≤10000:=fun i hi=>by
          rw [hX]
          rcases (show i=0∨i=1 by omega) with rfl|rfl
          ·exact za
          ·exact zb
         clear hO hX hRES hOm
         refine ap 3 (α:={i:Nat // i≤2}) (fun i=>[(4,.ptr 0 0 0),(16,di 6 2 (O i.1)),(91,.own 6 1 0 2),(92,.int .i64 2),(93,.int .i64 i.1)])
          (fun i=>(0,.live 6 [.agg [.bool p.x.neg,nA p.x.p,nA p.x.q,.bool p.y.neg,nA p.y.p,nA p.y.q]])::(1,.live 6 [.agg (pC a),.agg (pC b)])::cR 6 2 (O i.1)) (fun i=>2-i.1) ⟨0,by omega⟩ [(1,39),(2,40)] (by simp) (by simp [hO0,cR,nm]) (by omega) (by simp -implicitDefEqProofs [go_sem,hO0]; rfl) (by simp -implicitDefEqProofs [go_sem,hO0,aQ]) fun ⟨i,hi⟩=>?_
         have hne:O i≠[]:=fun h=>by have:=hOl i; rw [h] at this; simp at this
         have hb:Go.Proofs.YtdnmfaljidjijaaGreat.hp 3 (cR 6 2 (O i)) 2 = .live 6 (O i):=by rw [aC hne]; simp [Go.Proofs.YtdnmfaljidjijaaGreat.hp,aH]
         have hl:=hOl i
         have hs':=hOs i
         have hr0:=hOr i
         have hr1:=hOr (i+1)
         simp -implicitDefEqProofs [go_sem]
         refine ⟨fun h=>?_,fun h=>?_⟩
         ·have es:=wS i (by omega)
          have hg:=hXi i (by omega)
          have kx:=kq (X i) (hXs i (by omega))
          simp -implicitDefEqProofs [go_sem,hg]
          refine ⟨by omega,by omega,ac kx ?_⟩
          simp -implicitDefEqProofs [go_sem]
          refine aI (.inl rfl) (by omega) (by omega) (by simp -implicitDefEqProofs [go_sem]) (by simp [hl]<;>omega) (fun h=>hb) ?_
          simp -implicitDefEqProofs [go_sem,es]
          have hn1:O (i+1)≠[]:=by rw [hs']; simp
          rw [hs'] at hr1
          have u1:=(renL_ro (nm [(2,5)]) _ hr1).symm
          have u2:=cloL_ro (n:=3) _ hr1
          have hl1:(O (i+1)).length=(O i).length+1:=by rw [hs']; simp
          exact ae ⟨i+1,by omega⟩ (by simp only; omega) [(2,5)] (by simp) (by simp only [aC hn1]; simp [nm]) (by simp) (by simp only [aV hn1,hl1]; simp -implicitDefEqProofs [go_sem,es]) (by simp only [aC hn1,hs']; simp -implicitDefEqProofs [go_sem,←u1,u2])
         ·have:i=2:=by omega
          subst this
          have ht:(O 2).take 3=O 2:=List.take_of_length_le (by omega)
          have hap:=aV (sz:=6) (id:=2) hne
          rw [hap,aC hne,hl]
          simp -implicitDefEqProofs [go_sem,hl,ht]
          exact ⟨hr0,Wk.refl _⟩
   ·rw [if_pos a3] at hRES
    simp -implicitDefEqProofs [go_sem,a3]
    rw [hRES]
    exact Wk.tup (.cons (Wk.nil 0 6 true) (.cons (Wk.refl _) .nil))
def PC (w m t:Rat) (join:Int):Prop:=0<w∧0<t∧0≤join∧join≤2∧(join=0→1≤m∧m≤64)
instance (w m t:Rat) (join:Int):Decidable (PC w m t join):=inferInstanceAs (Decidable (_∧_))
def CC (p u v:PQ) (w m t:Rat) (join:Int):List PQ×Int :=
 if u=⟨0,0⟩∨v=⟨0,0⟩ then ([],12) else if ¬PC w m t join then ([],1) else if join=2 then mV p (w*bB) t else if u.cross v=0 then ([],0) else
 match qb u v m (w*bB) t join (decide (u.cross v<0)) with
 | none=>([],24)
 | some l=>(p::(if u.cross v<0 then l.reverse else l).map p.add,0)
theorem FM (p u v:PQ) (s:SR):dl p u v s=CC p u v s.width.val s.miter.val s.tol.val s.join:=rfl
def Mb (d o:PQ) (h:Rat):Prop:=0<d.dot o→d.dot o*d.dot o≤h*h*o.dot o
instance (d o:PQ) (h:Rat):Decidable (Mb d o h):=inferInstanceAs (Decidable (_→_))
def Sl (d o:PQ) (g:Rat):Prop:=0≤d.dot o∧g*g*o.dot o≤d.dot o*d.dot o
instance (d o:PQ) (g:Rat):Decidable (Sl d o g):=inferInstanceAs (Decidable (_∧_))
theorem A_ {l:List PQ} {N:Nat} (h:∀p∈l,p.sz≤N) (hN:l.length*(4*N+2)≤4294967296):sz (er l)≤4294967300:=by
 have h1:=IJ (l:=l) (N:=N) h l.length (Nat.le_refl _)
 have h2:=aJ (aS l l.length) bB
 have h3:=fv
 unfold er
 omega
theorem If {p u v:PQ} {s:SR} (hp:p.sz≤1) (hu:u.sz≤1) (hv:v.sz≤1) (hs:sz s.h≤1):(dl p u v s).1.length≤16384∧∀x∈(dl p u v s).1,x.sz≤30000:=by
 have key:∀o:List PQ,(∀x∈o,x.sz≤10000)→∀left:Bool,∀x∈p::(if left then o.reverse else o).map p.add,x.sz≤30000:=fun o ho left x hx=>by
  rcases List.mem_cons.1 hx with rfl|hx
  ·omega
  ·obtain ⟨y,hy,rfl⟩:=List.mem_map.1 hx
   have hy':y∈o:=by cases left<;>simpa using hy
   have:=ho y hy'
   have:=PQ.sz_add p y
   omega
 unfold dl
 split
 ·exact ⟨by simp,by simp⟩
 split
 ·exact ⟨by simp,by simp⟩
 split
 ·rcases ig p s.h s.tol.val with ⟨h,_⟩|⟨e,h1,_,_,_,h⟩
  ·rw [h]; exact ⟨by simp,by simp⟩
  ·rw [h]
   have hp:2 ^ e≤4096:=(Ay (by omega)).2 h1
   have hp1:1≤2 ^ e:=Nat.pow_pos (by omega)
   generalize 2 ^ e=m at *
   refine ⟨by simp only [da]; omega,fun x hx=>?_⟩
   have:=GQ (c:=p) (h:=s.h) hp1 hp x hx
   omega
 split
 ·exact ⟨by simp,by simp⟩
 split
 ·exact ⟨by simp,by simp⟩
 ·rename_i o ho
  have hi:(if u.cross v<0 then o.reverse else o)=if decide (u.cross v<0) then o.reverse else o:=by by_cases hc:u.cross v<0<;>simp [hc]
  simp only [hi]
  unfold qb at ho
  have hl:(∀x∈o,x.sz≤10000)∧o.length≤3:=by
   split at ho
   ·obtain ⟨a,t,b,rfl,h1,h2,h3⟩:=C4 ho hu hv hs
    exact ⟨by simp [h1,h2,h3],by simp⟩
   ·obtain ⟨a,b,rfl,h1,h2⟩:=ss ho hu hv hs
    exact ⟨by simp [h1,h2],by simp⟩
  refine ⟨?_,key o hl.1 _⟩
  generalize decide (u.cross v<0)=d
  have:=hl.2
  cases d<;>simp<;>omega
open Go.ChangeShapes Go.WideShapes Go.ChangeAt Go.RowKit
section
variable {H:Type} {enc:TypeId×Value→H} {w:World}
def x8 (l:List AV):Prop:=∃z:RQ,z.Lm∧l=z.cs
end
structure Cvx (l:List PQ):Prop where
 len:3≤l.length
 ne:∀i k (hi:i<l.length) (hk:k<l.length),k≠i→l[i]≠l[k]
 turn:∀i k (hi:i<l.length) (hk:k<l.length),0≤((l[(i+1)%l.length]'(Nat.mod_lt _ (by omega))).sub l[i]).cross (l[k].sub l[i])
 fst:0<((l[1]'(by omega)).sub (l[0]'(by omega))).cross ((l[2]'(by omega)).sub (l[0]'(by omega)))
 lst:0<((l[l.length-1]'(by omega)).sub (l[l.length-2]'(by omega))).cross ((l[0]'(by omega)).sub (l[l.length-2]'(by omega)))
theorem Cvx.pure {l:List PQ} (h:Cvx l) (hl:l.length≤1048576) (hs:∀p∈l,p.sz≤1073741824):ag Tryz.prog 60 [pL l] (.bool true) :=
 yM l h.len hl hs h.ne (fun i k hi hk=>oY.2 (h.turn i k hi hk)) (bQ.2 h.fst)
structure MQ where
 a:Rat
 b:Rat
 c:Rat
 d:Rat
 e:Rat
 f:Rat
def MQ.app (m:MQ) (p:PQ):PQ:=⟨m.a*p.x+m.c*p.y+m.e,m.b*p.x+m.d*p.y+m.f⟩
def MQ.det (m:MQ):Rat:=m.a*m.d-m.b*m.c
theorem i_ (m:MQ) (p q r:PQ):((m.app q).sub (m.app p)).cross ((m.app r).sub (m.app p))=m.det*(q.sub p).cross (r.sub p):=by
 unfold MQ.app MQ.det PQ.sub PQ.cross; simp only; grind
theorem Dd {m:MQ} (hm:m.det≠0) {p q:PQ} (h:m.app p=m.app q):p=q:=by
 unfold MQ.app at h
 rw [PQ.mk.injEq] at h
 obtain ⟨h1,h2⟩:=h
 unfold MQ.det at hm
 refine PQ.ext ?_ ?_
 ·have:(m.a*m.d-m.b*m.c)*(p.x-q.x)=0:=by grind
  rcases Rat.mul_eq_zero.1 this with h|h
  ·exact absurd h hm
  ·grind
 ·have:(m.a*m.d-m.b*m.c)*(p.y-q.y)=0:=by grind
  rcases Rat.mul_eq_zero.1 this with h|h
  ·exact absurd h hm
  ·grind
def iF {α:Type} (l:List α):List α:=match l with
 | []=>[]
 | a::r=>a::r.reverse
theorem Cvx.map {l:List PQ} (h:Cvx l) {m:MQ} (hm:0<m.det):Cvx (l.map m.app):=by
 refine ⟨by rw [List.length_map]; exact h.len,fun i k hi hk hne=>?_,fun i k hi hk=>?_,?_,?_⟩
 ·rw [List.length_map] at hi hk
  rw [List.getElem_map,List.getElem_map]
  exact fun e=>h.ne i k hi hk hne (Dd (by grind) e)
 ·simp only [List.length_map] at hi hk
  simp only [List.length_map,List.getElem_map]
  rw [i_]
  exact Rat.mul_nonneg (by grind) (h.turn i k hi hk)
 ·simp only [List.getElem_map]
  rw [i_]; exact Rat.mul_pos hm h.fst
 ·simp only [List.length_map,List.getElem_map]
  rw [i_]; exact Rat.mul_pos hm h.lst
structure MR where
 a:RQ
 b:RQ
 c:RQ
 d:RQ
 e:RQ
 f:RQ
def MR.cs (m:MR):List AV:=[.bool m.a.neg,nA m.a.p,nA m.a.q,.bool m.b.neg,nA m.b.p,nA m.b.q,.bool m.c.neg,nA m.c.p,nA m.c.q,.bool m.d.neg,nA m.d.p,nA m.d.q,.bool m.e.neg,nA m.e.p,nA m.e.q,.bool m.f.neg,nA m.f.p,nA m.f.q]
def MR.av (m:MR):AV := .agg m.cs
theorem MR.ro_cs (m:MR):roL m.cs:=by unfold MR.cs; simp -implicitDefEqProofs [go_sem]
def MR.val (m:MR):MQ:=⟨m.a.val,m.b.val,m.c.val,m.d.val,m.e.val,m.f.val⟩
structure MR.In (n:Nat) (m:MR):Prop where
 a:m.a.In n
 b:m.b.In n
 c:m.c.In n
 d:m.d.In n
 e:m.e.In n
 f:m.f.In n
def KT (m:MQ):MR:=⟨qc m.a,qc m.b,qc m.c,qc m.d,qc m.e,qc m.f⟩
theorem JO (m:MQ):(KT m).val=m:=by unfold MR.val KT; simp only [br]
def MR.x (m:MR):PR:=⟨m.a,m.b⟩
def MR.y (m:MR):PR:=⟨m.c,m.d⟩
def MR.s (m:MR):PR:=⟨m.e,m.f⟩
theorem DS (m:MR):ag Tryz.prog 95 [m.av] m.x.av:=by
 refine Pg Tryz.func95 rfl [.cell 2 72] rfl (ju _) ?_
 unfold MR.av MR.cs MR.x PR.av
 simp -implicitDefEqProofs [go_sem,aL]
theorem DT (m:MR):ag Tryz.prog 96 [m.av] m.y.av:=by
 refine Pg Tryz.func96 rfl [.cell 2 72] rfl (ju _) ?_
 unfold MR.av MR.cs MR.y PR.av
 simp -implicitDefEqProofs [go_sem,aL]
theorem JU (m:MR):ag Tryz.prog 99 [m.av] m.s.av:=by
 refine Pg Tryz.func99 rfl [.cell 2 72] rfl (ju _) ?_
 unfold MR.av MR.cs MR.s PR.av
 simp -implicitDefEqProofs [go_sem,aL]
theorem Cn (m:MR) (p:PR) (hm:m.In 4294967296) (hp:p.In 4294967296):ag Tryz.prog 98 [m.av,p.av] (pA ((m.x.val.scale p.val.x).add (m.y.val.scale p.val.y))):=by
 have k1:=DS m
 have k2:=DT m
 have k3:=iI m.x p.x ⟨hm.a.mono,hm.b.mono⟩ hp.x.mono
 have k4:=iI m.y p.y ⟨hm.c.mono,hm.d.mono⟩ hp.y.mono
 have zx:m.x.val.sz≤4294967296:=PR.In.sz ⟨hm.a,hm.b⟩
 have zy:m.y.val.sz≤4294967296:=PR.In.sz ⟨hm.c,hm.d⟩
 have z1:=PQ.sz_scale m.x.val p.x.val
 have z2:=PQ.sz_scale m.y.val p.y.val
 have y1:=hp.x.sz
 have y2:=hp.y.sz
 have k5:=KV (m.x.val.scale p.x.val) (m.y.val.scale p.y.val) (by omega) (by omega)
 change ag _ _ _ (pA ((m.x.val.scale p.val.x).add (m.y.val.scale p.val.y))) at k5
 have mro:=m.ro_cs
 have mlen:m.cs.length=18:=rfl
 have mtk:m.cs.take 18=m.cs:=rfl
 generalize (m.x.val.scale p.val.x).add (m.y.val.scale p.val.y)=r at *
 generalize m.x.val.scale p.x.val=u at *
 generalize m.y.val.scale p.y.val=v at *
 unfold MR.av at *
 generalize m.cs=M at *
 refine Pg Tryz.func98 rfl [.cell 4 72] rfl (iU _) ?_
 unfold PR.av RQ.av MR.x MR.y at *
 simp only [aQ] at *
 simp -implicitDefEqProofs [go_sem,mlen,mtk]
 refine ao _ k1 (by simp [go_sem,mro]) ?_
 simp -implicitDefEqProofs [go_sem]
 refine aa k3 ?_
 simp -implicitDefEqProofs [go_sem,mlen,mtk]
 refine ao _ k2 (by simp [go_sem,mro]) ?_
 simp -implicitDefEqProofs [go_sem]
 refine aa k4 ?_
 simp -implicitDefEqProofs [go_sem]
 refine aa k5 ?_
 simp -implicitDefEqProofs [go_sem,aL]
theorem De (m:MR) (p:PQ):((m.x.val.scale p.x).add (m.y.val.scale p.y)).add m.s.val=m.val.app p:=PQ.ext (by unfold MQ.app MR.val MR.x MR.y MR.s PR.val PQ.scale PQ.add; rfl) (by unfold MQ.app MR.val MR.x MR.y MR.s PR.val PQ.scale PQ.add; rfl)
theorem Aj (m:MR) (p:PR) (hm:m.In 100000000) (hp:p.In 100000000):ag Tryz.prog 36 [m.av,p.av] (pA (m.val.app p.val)):=by
 have k1:=Cn m p (⟨hm.a.mono,hm.b.mono,hm.c.mono,hm.d.mono,hm.e.mono,hm.f.mono⟩) hp.mono
 have k2:=JU m
 have zx:m.x.val.sz≤100000000:=PR.In.sz ⟨hm.a,hm.b⟩
 have zy:m.y.val.sz≤100000000:=PR.In.sz ⟨hm.c,hm.d⟩
 have z1:=PQ.sz_scale m.x.val p.val.x
 have z2:=PQ.sz_scale m.y.val p.val.y
 have z3:=PQ.sz_add (m.x.val.scale p.val.x) (m.y.val.scale p.val.y)
 have y0:=hp.sz
 have y1:=p.val.sz_x
 have y2:=p.val.sz_y
 have k3:=dY (pc ((m.x.val.scale p.val.x).add (m.y.val.scale p.val.y))) m.s (be (by omega)) ⟨hm.e.mono,hm.f.mono⟩
 rw [aO,De] at k3
 change ag _ _ [pA _,_] _ at k3
 have mro:=m.ro_cs
 have mlen:m.cs.length=18:=rfl
 have mtk:m.cs.take 18=m.cs:=rfl
 generalize m.val.app p.val=r at *
 generalize (m.x.val.scale p.val.x).add (m.y.val.scale p.val.y)=u at *
 unfold MR.av at *
 generalize m.cs=M at *
 refine Pg Tryz.func36 rfl [.cell 4 72] rfl (iU _) ?_
 unfold PR.av MR.s at *
 simp only [aQ] at *
 simp -implicitDefEqProofs [go_sem,mlen,mtk]
 refine ao _ k1 (by simp [go_sem,mro]) ?_
 simp -implicitDefEqProofs [go_sem,mlen,mtk]
 refine ao _ k2 (by simp [go_sem,mro]) ?_
 simp -implicitDefEqProofs [go_sem]
 refine aa k3 ?_
 simp -implicitDefEqProofs [go_sem,aL]
theorem FC (m:MR) (hm:m.In 100000000):ag Tryz.prog 35 [m.av] (rA m.val.det):=by
 have k1:=DS m
 have k2:=DT m
 have k3:=jI m.x m.y ⟨hm.a.mono,hm.b.mono⟩ ⟨hm.c.mono,hm.d.mono⟩
 have e:m.x.val.cross m.y.val=m.val.det:=rfl
 rw [e] at k3
 have mro:=m.ro_cs
 have mlen:m.cs.length=18:=rfl
 have mtk:m.cs.take 18=m.cs:=rfl
 generalize m.val.det=r at *
 unfold MR.av at *
 generalize m.cs=M at *
 refine Pg Tryz.func35 rfl [.cell 2 27] rfl (dD _) ?_
 unfold PR.av MR.x MR.y at *
 simp only [bA] at *
 simp -implicitDefEqProofs [go_sem,mlen,mtk]
 refine ao _ k1 (by simp [go_sem,mro]) ?_
 simp -implicitDefEqProofs [go_sem,mlen,mtk]
 refine ao _ k2 (by simp [go_sem,mro]) ?_
 simp -implicitDefEqProofs [go_sem]
 refine aa k3 ?_
 simp -implicitDefEqProofs [go_sem,aL]
theorem jb (v u:Int) (hv : -9223372036854775808≤v∧v≤9223372036854775807) (hu:1≤u∧u≤65536):ag Tryz.prog 158 [.int .i64 v,.int .i64 u] (rA ((v:Rat) / (u:Rat))):=by
 have k:=bM v u hv (by omega) (by omega)
 have hu1:¬u<1:=by omega
 refine Pg Tryz.func158 rfl [.cell 4 27] rfl (dD _) ?_
 simp only [bA] at *
 simp -implicitDefEqProofs [go_sem,hu1]
 refine ac k ?_
 simp -implicitDefEqProofs [go_sem,aL]
def ef (a:PQ):List PQ→List PQ
 | []=>[]
 | b::l=>if b=a then ef a l else b::ef b l
def bd:List PQ→List PQ
 | []=>[]
 | a::l=>a::ef a l
def gM:Nat→List PQ→List PQ
 | 0,l=>l
 | f+1,l=>if 1<l.length∧l.head?=l.getLast? then gM f l.dropLast else l
def bp (l:List PQ) (closed:Bool):List PQ:=if closed then gM l.length (bd l) else bd l
theorem pJ (a:PQ):∀l,(ef a l).length≤l.length
 | []=>Nat.le_refl _
 | b::l=>by
  simp only [ef]
  split
  ·have:=pJ a l; simp only [List.length_cons]; omega
  ·have:=pJ b l; simp only [List.length_cons]; omega
theorem j3 (l:List PQ):(bd l).length≤l.length:=by
 cases l with
 | nil=>exact Nat.le_refl _
 | cons a l=>have:=pJ a l; simp only [bd,List.length_cons]; omega
theorem pK (a:PQ):∀l,∀x∈ef a l,x∈l
 | [],x,h=>h
 | b::l,x,h=>by
  simp only [ef] at h
  split at h
  ·exact List.mem_cons_of_mem _ (pK a l x h)
  ·rcases List.mem_cons.1 h with rfl|h
   ·exact List.mem_cons_self
   ·exact List.mem_cons_of_mem _ (pK b l x h)
theorem oq (l:List PQ):∀x∈bd l,x∈l:=by
 cases l with
 | nil=>exact fun x h=>h
 | cons a l =>
  intro x h
  rcases List.mem_cons.1 h with rfl|h
  ·exact List.mem_cons_self
  ·exact List.mem_cons_of_mem _ (pK a l x h)
theorem wA:∀f (l:List PQ),(gM f l).length≤l.length
 | 0,l=>Nat.le_refl _
 | f+1,l=>by
  unfold gM
  split
  ·have:=wA f l.dropLast
   rw [List.length_dropLast] at this
   omega
  ·exact Nat.le_refl _
theorem ql:∀f (l:List PQ),∀x∈gM f l,x∈l
 | 0,l,x,h=>h
 | f+1,l,x,h=>by
  unfold gM at h
  split at h
  ·exact List.dropLast_subset _ (ql f l.dropLast x h)
  ·exact h
theorem gO (l:List PQ) (closed:Bool):∀x∈bp l closed,x∈l:=by
 intro x h
 unfold bp at h
 split at h
 ·exact oq l x (ql _ _ x h)
 ·exact oq l x h
theorem ja (l:List PQ) (closed:Bool):(bp l closed).length≤l.length:=by
 unfold bp
 split
 ·exact Nat.le_trans (wA _ _) (j3 l)
 ·exact j3 l
def aG (n:Nat) (closed:Bool):Nat:=if closed then n else n-1
def aK (c:List PQ) (i:Nat):PQ:=c.getD (i%c.length) ⟨0,0⟩
def ir (c:List PQ) (closed:Bool) (s:SR):List (List PQ×Int):=(List.range (aG c.length closed)).map fun i=>fk (aK c i) (aK c (i+1)) s
def jP (c:List PQ) (closed:Bool) (s:SR):List (List PQ×Int):=((List.range (aG c.length closed)).drop (if closed then 0 else 1)).map fun i=>dl (aK c i) ((aK c i).sub (aK c (i+c.length-1))) ((aK c (i+1)).sub (aK c i)) s
def lF (c:List PQ) (closed:Bool) (s:SR):List (List PQ×Int):=if closed then [] else [gX (aK c 0) ((aK c 0).sub (aK c 1)) s,gX (aK c (c.length-1)) ((aK c (c.length-1)).sub (aK c (c.length-2))) s]
def iz (c:List PQ) (closed:Bool) (s:SR):List (List PQ×Int):=if c.length=1 then [fW (aK c 0) s] else ir c closed s++(jP c closed s++lF c closed s)
def aD:List (List PQ×Int)→List (List PQ)×Int
 | []=>([],0)
 | (l,e)::r=>if e≠0 then ([],e) else if (aD r).2≠0 then ([],(aD r).2) else (if l=[] then (aD r).1 else l::(aD r).1,0)
theorem d7 {c:List PQ} (hc:c≠[]) (i:Nat):aK c i∈c:=by
 have hn:0<c.length:=by have:=mt List.length_eq_zero_iff.1 hc; omega
 have h:i%c.length<c.length:=Nat.mod_lt _ hn
 unfold aK
 rw [List.getD_eq_getElem?_getD,List.getElem?_eq_getElem h]
 exact List.getElem_mem _
theorem rm (c:List PQ) (i:Nat):aK c (i%c.length)=aK c i:=by unfold aK; rw [Nat.mod_mod]
theorem ec (c:List PQ) (i:Nat):aK c (i+c.length)=aK c i:=by unfold aK; rw [Nat.add_mod_right]
def cW (m:MQ) (l:List PQ):List PQ:=if m.det<0 then iF (l.map m.app) else l.map m.app
theorem nC (x:PQ):∀(a:PQ) (l:List PQ),ef a (l++[x])=ef a l++(if (ef a l).getLastD a=x then [] else [x])
 | a,[]=>by
  show (if x=a then [] else [x])=if a=x then [] else [x]
  by_cases h:x=a
  ·rw [if_pos h,if_pos h.symm]
  ·rw [if_neg h,if_neg (fun e:a=x=>h e.symm)]
 | a,b::l=>by
  simp only [List.cons_append,ef]
  by_cases h:b=a
  ·subst h
   simp only [if_true]
   exact nC x b l
  ·simp only [h,if_false]
   rw [nC x b l,List.cons_append]
   congr 2
   cases ef b l<;>rfl
theorem uU (l:List PQ) (x:PQ):bd (l++[x])=bd l++(if (bd l).getLast?=some x then [] else [x]):=by
 cases l with
 | nil=>rfl
 | cons a l =>
  have e:(bd (a::l)).getLast?=some ((ef a l).getLastD a):=by
   rw [List.getLastD_eq_getLast?]; exact List.getLast?_cons
  show a::ef a (l++[x])=(a::ef a l)++(if (bd (a::l)).getLast?=some x then [] else [x])
  rw [nC]
  by_cases h:(ef a l).getLastD a=x
  ·rw [if_pos h,if_pos (by rw [e,h]),List.append_nil,List.append_nil]
  ·rw [if_neg h,if_neg (by rw [e]; simpa using h)]; rfl
theorem sR (x:List PQ×Int):∀L:List (List PQ×Int),aD (L++[x])=if (aD L).2≠0 then aD L else if x.2≠0 then ([],x.2) else ((aD L).1++(if x.1=[] then [] else [x.1]),0)
 | []=>by
  obtain ⟨l,e⟩:=x
  simp only [List.nil_append,aD,ne_eq,not_true_eq_false,if_false]
 | (l,e)::r=>by
  have ih:=sR x r
  simp only [List.cons_append,aD]
  by_cases he:e=0
  ·rw [ih]
   by_cases h2:(aD r).2=0
   ·by_cases hx:x.2=0
    ·by_cases hl:l=[]
     ·simp [he,h2,hx,hl]
     ·simp [he,h2,hx,hl]
    ·simp [he,h2,hx]
   ·simp [he,h2]
  ·simp [he]
theorem EW {A R:List (List PQ×Int)} {x:List PQ×Int} (h:(aD A).2=0) (hx:x.2≠0):aD (A++x::R)=([],x.2):=by
 induction A with
 | nil=>obtain ⟨l,e⟩:=x; simp only [List.nil_append,aD]; rw [if_pos hx]
 | cons y A ih =>
  obtain ⟨l,e⟩:=y
  simp only [aD] at h
  simp only [List.cons_append,aD]
  by_cases he:e=0
  ·by_cases h2:(aD A).2=0
   ·rw [ih h2]; simp [he,hx]
   ·simp [he,h2] at h
  ·simp [he] at h
def gH (L:List (List PQ)):Nat:=(L.map List.length).sum
theorem Bc (L:List (List PQ)) (x:List PQ):gH (L++[x])=gH L+x.length:=by unfold gH; simp
theorem C5:∀L:List (List PQ×Int),(∀y∈L,y.2=0→y.1.length≤16384)→gH (aD L).1≤16384*L.length
 | [],h=>by simp [aD,gH]
 | (l,e)::r,h=>by
  have ih:=C5 r fun y hy=>h y (List.mem_cons_of_mem _ hy)
  have h0:=h (l,e) List.mem_cons_self
  simp only [aD,List.length_cons]
  by_cases he:e=0
  ·have h0:=h0 he
   simp only at h0
   by_cases h2:(aD r).2=0
   ·by_cases hl:l=[]
    ·simp only [he,h2,hl,ne_eq,not_true_eq_false,if_false,if_true]; omega
    ·have e1:gH (l::(aD r).1)=l.length+gH (aD r).1:=by unfold gH; simp
     simp only [he,h2,hl,ne_eq,not_true_eq_false,if_false]
     rw [e1]; omega
   ·simp only [he,h2,ne_eq,not_true_eq_false,not_false_eq_true,if_true,if_false]; unfold gH; simp
  ·simp only [he,ne_eq,not_false_eq_true,if_true]; unfold gH; simp
theorem wI (c:List PQ) (closed:Bool) (s:SR):(iz c closed s).length≤2*c.length+2:=by
 have hsd:aG c.length closed≤c.length:=by unfold aG; split<;>omega
 unfold iz
 split
 ·simp
 ·unfold ir jP lF
  simp only [List.length_append,List.length_map,List.length_range,List.length_drop]
  split<;>simp<;>omega
def Gn (R:PQ→PQ→Prop) (a:PQ):List PQ→Prop
 | []=>True
 | b::l=>R a b∧Gn R b l
def yn (R:PQ→PQ→Prop):List PQ→Prop
 | []=>True
 | a::l=>Gn R a l∧R (l.getLastD a) a
theorem sf {R:PQ→PQ→Prop}:∀(a:PQ) (l:List PQ),Gn R a l→Gn R a (ef a l)
 | a,[],_=>trivial
 | a,b::l,⟨h1,h2⟩=>by
  simp only [ef]
  split
  ·rename_i e; subst e; exact sf b l h2
  ·exact ⟨h1,sf b l h2⟩
theorem mE:∀(a:PQ) (l:List PQ),(ef a l).getLastD a=l.getLastD a
 | a,[]=>rfl
 | a,b::l=>by
  simp only [ef]
  split
  ·rename_i e; subst e; rw [mE b l,List.getLastD_cons]
  ·simp only [List.getLastD_cons]; exact mE b l
theorem yP {R:PQ→PQ→Prop} {l:List PQ} (h:yn R l):yn R (bd l):=by
 cases l with
 | nil=>trivial
 | cons a l=>exact ⟨sf a l h.1,by rw [mE]; exact h.2⟩
theorem Di {R:PQ→PQ→Prop}:∀(a:PQ) (l:List PQ) (x:PQ),Gn R a (l++[x])↔Gn R a l∧R (l.getLastD a) x
 | a,[],x=>by simp [Gn]
 | a,b::l,x=>by
  simp only [List.cons_append,Gn,List.getLastD_cons]
  rw [Di b l x,and_assoc]
theorem GP {R:PQ→PQ→Prop} {l:List PQ} (hl:1<l.length) (e:l.head?=l.getLast?) (h:yn R l):yn R l.dropLast:=by
 obtain ⟨m,x,rfl⟩:∃m x,l=m++[x]:=⟨l.dropLast,l.getLast (by intro h; subst h; simp at hl),(List.dropLast_concat_getLast _).symm⟩
 cases m with
 | nil=>simp at hl
 | cons a m =>
  rw [List.dropLast_concat]
  simp only [List.cons_append,List.head?_cons] at e
  rw [show a::(m++[x])=(a::m)++[x] from rfl,List.getLast?_concat] at e
  injection e with e
  subst e
  exact (Di _ _ _).1 h.1
theorem yQ {R:PQ→PQ→Prop}:∀(f:Nat) (l:List PQ),yn R l→yn R (gM f l)
 | 0,l,h=>h
 | f+1,l,h=>by
  unfold gM
  split
  ·rename_i e; exact yQ f _ (GP e.1 e.2 h)
  ·exact h
theorem pM {R:PQ→PQ→Prop} {l:List PQ} (closed:Bool) (h:yn R l):yn R (bp l closed):=by
 unfold bp
 split
 ·exact yQ _ _ (yP h)
 ·exact yP h
theorem Dj {R:PQ→PQ→Prop}:∀(a:PQ) (l:List PQ),Gn R a l→∀i (h:i<l.length),R ((a::l)[i]'(by simp only [List.length_cons]; omega)) l[i]
 | a,[],_,i,h=>by simp at h
 | a,b::l,⟨h1,h2⟩,0,h=>h1
 | a,b::l,⟨h1,h2⟩,i+1,h=>Dj b l h2 i (by simpa using h)
theorem w9 {R:PQ→PQ→Prop} {c:List PQ} (h:yn R c) (hc:c≠[]) (i:Nat):R (aK c i) (aK c (i+1)):=by
 cases c with
 | nil=>exact absurd rfl hc
 | cons a l =>
  have hn:i%(l.length+1)<l.length+1:=Nat.mod_lt _ (by omega)
  unfold aK
  simp only [List.length_cons]
  rw [List.getD_eq_getElem?_getD,List.getD_eq_getElem?_getD,List.getElem?_eq_getElem (by simpa using hn)]
  by_cases e:i%(l.length+1)+1=l.length+1
  ·have e1:(i+1)%(l.length+1)=0:=by
    rw [←Nat.mod_add_div i (l.length+1),show i%(l.length+1)+(l.length+1)*(i / (l.length+1))+1=(i%(l.length+1)+1)+(l.length+1)*(i / (l.length+1)) by omega,Nat.add_mul_mod_self_left,e,Nat.mod_self]
   have e2:i%(l.length+1)=l.length:=by omega
   have hw:=h.2
   rw [e1]
   simp only [List.getElem?_cons_zero,Option.getD_some,e2]
   have:(a::l)[l.length]'(by simp)=l.getLastD a:=by
    rw [List.getLastD_eq_getLast?,List.getLast?_eq_getElem?]
    by_cases h0:l.length=0
    ·have:=List.length_eq_zero_iff.1 h0; subst this; rfl
    ·rw [List.getElem?_eq_getElem (by omega),Option.getD_some,List.getElem_cons,dif_neg h0]
   rw [this]
   exact hw
  ·have e1:(i+1)%(l.length+1)=i%(l.length+1)+1:=by
    conv=>lhs; rw [←Nat.mod_add_div i (l.length+1),show i%(l.length+1)+(l.length+1)*(i / (l.length+1))+1=(i%(l.length+1)+1)+(l.length+1)*(i / (l.length+1)) by omega,Nat.add_mul_mod_self_left]
    rw [Nat.mod_eq_of_lt (by omega)]
   rw [e1,List.getElem?_eq_getElem (by simp only [List.length_cons]; omega)]
   simp only [Option.getD_some,List.getElem_cons_succ]
   exact Dj a l h.1 _ (by omega)
def qI (x y:PQ):Prop:=(y.sub x).sz≤1
theorem rU {c:List PQ} {closed:Bool} {s:SR} (hc:c≠[]) (hz:∀p∈c,p.sz≤1) (hn:yn qI c) (hs:s.Sml):∀y∈iz c closed s,wG y.1:=by
 have z:=fun i=>hz _ (d7 hc i)
 have d:∀i,((aK c (i+1)).sub (aK c i)).sz≤1:=fun i=>w9 hn hc i
 have hn0:0<c.length:=by have:=mt List.length_eq_zero_iff.1 hc; omega
 intro y h
 unfold iz at h
 split at h
 ·rw [List.mem_singleton] at h
  subst h
  exact zE (z 0) hs
 ·rcases List.mem_append.1 h with h|h
  ·obtain ⟨i,_,rfl⟩:=List.mem_map.1 h
   exact EV (z i) (z (i+1)) hs
  rcases List.mem_append.1 h with h|h
  ·obtain ⟨i,_,rfl⟩:=List.mem_map.1 h
   have d1:=d (i+c.length-1)
   rw [show i+c.length-1+1=i+c.length by omega,ec] at d1
   exact If (z i) d1 (d i) hs.h
  ·unfold lF at h
   split at h
   ·cases h
   ·have z1:=PQ.sz_sub (aK c 0) (aK c 1)
    have z2:=PQ.sz_sub (aK c (c.length-1)) (aK c (c.length-2))
    have y0:=z 0
    have y1:=z 1
    have y2:=z (c.length-1)
    have y3:=z (c.length-2)
    simp only [List.mem_cons,List.not_mem_nil,or_false] at h
    rcases h with rfl|rfl
    ·exact zF (z 0) (by omega) hs
    ·exact zF (z _) (by omega) hs
theorem nS (p:PR) (hp:p.In 1000000):ag Tryz.prog 122 [p.av] (pA p.val):=by
 have k:=KW p hp.mono
 unfold pZ at k
 refine Pg Tryz.func122 rfl [.cell 2 72] rfl (iU _) ?_
 unfold PR.av at *
 generalize p.val=q at *
 simp only [aQ] at *
 simp -implicitDefEqProofs [go_sem]
 refine ac k ?_
 simp -implicitDefEqProofs [go_sem,aL]
def I4 (x:List PQ×Int):AV := .agg [pL x.1,.int .i64 x.2]
theorem MB (x:List PQ×Int):ro (I4 x):=by unfold I4; simp only [ro,roL]; exact ⟨iV _,trivial,trivial⟩
theorem A1 (l:List PQ) (e:Int):ag Tryz.prog 108 [pL l,.int .i64 e] (I4 (l,e)):=by
 refine Pg Tryz.func108 rfl [.cell 4 183] rfl (MB _) ?_
 unfold I4 pL
 simp -implicitDefEqProofs [go_sem,aL]
def qL (s:SR):Prop:=0<s.tol.val∧0≤s.cap∧s.cap≤2∧0≤s.join∧s.join≤2∧1≤s.miter.val∧s.miter.val≤64
instance (s:SR):Decidable (qL s):=inferInstanceAs (Decidable (_∧_))
structure SR.In (n:Nat) (s:SR):Prop where
 width:s.width.In n
 miter:s.miter.In n
 tol:s.tol.In n
theorem SR.Sml.inn {s:SR} (h:s.Sml):s.In 1048576:=⟨h.width.mono,h.miter.mono,h.tol.mono⟩
theorem F8 (s:SR) (hs:s.In 1048576):ag Tryz.prog 105 [s.av] (.bool (decide (qL s))):=by
 have g2:=bI s.tol hs.tol.sm.ok
 have z2:=bQ (x:=s.tol.val)
 have k1:=bM 1 1 (by omega) (by omega) (by omega)
 rw [show ((1:Int):Rat) / ((1:Int):Rat)=1 by grind] at k1
 have k2:=bM 64 1 (by omega) (by omega) (by omega)
 have y2:=gD (p:=64) (q:=1) (by omega) (by omega) (by omega)
 rw [show ((64:Int):Rat) / ((1:Int):Rat)=64 by grind] at k2 y2
 have y1:=eH
 have hm:=hs.miter
 have k3:=fM s.miter (qc 1) hm.sm (c_ (by omega))
 have k4:=fM s.miter (qc 64) hm.sm (c_ (by omega))
 rw [br] at k3 k4
 change ag _ _ [_,rA 1] _ at k3
 change ag _ _ [_,rA 64] _ at k4
 have z3:=iX (x:=s.miter.val) (y:=1)
 have z4:=iu (x:=s.miter.val) (y:=64)
 obtain ⟨C,hC⟩:∃C,C=s.cap:=⟨_,rfl⟩
 obtain ⟨J,hJ⟩:∃J,J=s.join:=⟨_,rfl⟩
 have hB:decide (qL s)=(decide (0<aM s.tol.val) && (decide (0≤C) && (decide (C≤2) && (decide (0≤J) && (decide (J≤2) && (decide (0≤bJ s.miter.val 1) && decide (bJ s.miter.val 64≤0))))))):=by
  rw [←Bool.decide_and,←Bool.decide_and,←Bool.decide_and,←Bool.decide_and,←Bool.decide_and,←Bool.decide_and,decide_eq_decide,z2,z3,z4,hC,hJ]; exact Iff.rfl
 rw [hB]
 unfold SR.av SR.cs
 rw [←hC,←hJ]
 generalize bJ s.miter.val 1=c1 at *
 generalize bJ s.miter.val 64=c2 at *
 generalize aM s.tol.val=s2 at *
 clear hB z2 z3 z4 hC hJ
 simp only [bA] at *
 unfold RQ.av at *
 refine Pg Tryz.func105 rfl [.tmp 2] rfl (by simp -implicitDefEqProofs [go_sem]) ?_
 simp -implicitDefEqProofs [go_sem]
 refine aa g2 ?_
 by_cases a2:0<s2
 ·by_cases a3:0≤C
  ·by_cases a4:C≤2
   ·by_cases a5:0≤J
    ·by_cases a6:J≤2
     ·simp -implicitDefEqProofs [go_sem,a2,a3,a4,a5,a6]
      refine aa k1 ?_
      simp -implicitDefEqProofs [go_sem]
      refine aa k3 ?_
      by_cases a7:0≤c1
      ·simp -implicitDefEqProofs [go_sem,a7]
       refine aa k2 ?_
       simp -implicitDefEqProofs [go_sem]
       refine aa k4 ?_
       simp -implicitDefEqProofs [go_sem]
      ·simp -implicitDefEqProofs [go_sem,a7]
     ·simp -implicitDefEqProofs [go_sem,a2,a3,a4,a5,a6]
    ·simp -implicitDefEqProofs [go_sem,a2,a3,a4,a5]
   ·simp -implicitDefEqProofs [go_sem,a2,a3,a4]
  ·simp -implicitDefEqProofs [go_sem,a2,a3]
 ·simp -implicitDefEqProofs [go_sem,a2]
theorem wL {c:List PQ} {i:Nat} (h:i<c.length):aK c i=c[i]:=by
 unfold aK
 rw [Nat.mod_eq_of_lt h,List.getD_eq_getElem?_getD,List.getElem?_eq_getElem h]; rfl
theorem tN (c:List PQ) (i:Int) (m:Nat) (hc:c≠[]) (hl:c.length≤1048576) (hi:i+c.length=m) (hm:m≤4194304):ag Tryz.prog 181 [.int .i64 i,.rp [pL c],.rp [.int .i64 c.length]] (pA (aK c m)):=by
 have hn:0<c.length:=by have:=mt List.length_eq_zero_iff.1 hc; omega
 have hlt:m%c.length<c.length:=Nat.mod_lt _ hn
 have e1:IntKind.i64.wrap (i+c.length)=(m:Int):=by rw [bS (by omega),hi]
 have e2:Int.tmod (m:Int) (c.length:Int)=((m%c.length:Nat):Int):=by rw [Int.tmod_eq_emod_of_nonneg (by omega)]; rfl
 have ev:aK c m=c[m%c.length]:=by rw [←rm,wL hlt]
 have gi:=eV hlt
 rw [ev]
 generalize m%c.length=j at *
 refine Pg Tryz.func181 rfl [.cell 4 72] rfl (iU _) ?_
 unfold pL
 generalize c[j]=q at *
 simp only [aQ] at *
 simp -implicitDefEqProofs [go_sem,e1,e2,hlt,gi,hc,aL]
theorem IH (c:List PQ) (i:Int) (m:Nat) (hc:c≠[]) (hl:c.length≤1048576) (hz:∀p∈c,p.sz≤1) (hi:i+c.length=m) (hm:m≤2097152) :
 ag Tryz.prog 182 [.int .i64 i,.rp [.fn (.func 181) [] [.rp [pL c],.rp [.int .i64 c.length]]]] (pA ((aK c (m+1)).sub (aK c m))):=by
 have k1:=tN c (i+1) (m+1) hc hl (by omega) (by omega)
 have k2:=tN c i m hc hl hi (by omega)
 have z1:=hz _ (d7 hc (m+1))
 have z2:=hz _ (d7 hc m)
 have k3:=cL (pc (aK c (m+1))) (pc (aK c m)) (be (by omega)) (be (by omega))
 rw [aO,aO] at k3
 change ag _ _ [pA _,pA _] (pA _) at k3
 have e1:IntKind.i64.wrap (i+1)=i+1:=by rw [bS (by omega)]
 generalize (aK c (m+1)).sub (aK c m)=d at *
 generalize aK c (m+1)=q at *
 generalize aK c m=p at *
 refine Pg Tryz.func182 rfl [.cell 3 72] rfl (iU _) ?_
 unfold pL at *
 simp only [aQ] at *
 simp -implicitDefEqProofs [go_sem,e1]
 refine aa k1 ?_
 simp -implicitDefEqProofs [go_sem]
 refine aa k2 ?_
 simp -implicitDefEqProofs [go_sem]
 refine aa k3 ?_
 simp -implicitDefEqProofs [go_sem,aL]
end Go.Proofs.YtdnmfaljidjijaaGreat
