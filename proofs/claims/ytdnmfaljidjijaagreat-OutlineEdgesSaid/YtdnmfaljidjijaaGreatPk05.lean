import Derived.Test.YtdnmfaljidjijaaGreatPk04
namespace Go.Proofs.YtdnmfaljidjijaaGreat
set_option maxHeartbeats 16000000
open Go Go.Proofs
set_option linter.unusedSimpArgs false
set_option linter.unusedVariables false
set_option maxRecDepth 20000
theorem vD:aa Tryz.prog 29 [] (rg dJ).av:=by
 have km:=yp 65536 0 0 65536 0 0 (by omega) (by omega) (by omega) (by omega) (by omega) (by omega)
 have eM:(⟨((65536:Int):Rat) / (65536:Int),((0:Int):Rat) / (65536:Int),((0:Int):Rat) / (65536:Int),((65536:Int):Rat) / (65536:Int),((0:Int):Rat) / (64:Int),((0:Int):Rat) / (64:Int)⟩:MQ)=dJ:=by unfold dJ; simp only [MQ.mk.injEq]; decide +kernel
 rw [eM] at km
 have m0:(rg dJ).cs.length=18:=rfl
 have m2:=(rg dJ).ro_cs
 have m3:(rg dJ).cs.take 18=(rg dJ).cs:=rfl
 refine Pg Tryz.func29 rfl [.cell 0 29] rfl (by unfold MR.av; simp -implicitDefEqProofs [go_sem,m2]) ?_
 unfold MR.av at *
 generalize (rg dJ).cs=S at *
 simp -implicitDefEqProofs [go_sem]
 refine ab km ?_
 simp -implicitDefEqProofs [go_sem,aK,m0,m2,m3,viewL_ro _ _ m2,fitsL_ro _ _ m2]
theorem A5:sz dJ.a≤1∧sz dJ.b≤1∧sz dJ.c≤1∧sz dJ.d≤1∧sz dJ.e≤1∧sz dJ.f≤1:=by
 have z1:sz (1:Rat)≤1:=by rw [jJ]; exact Nat.le_refl _
 have z0:sz (0:Rat)≤1:=by rw [show sz 0=1 from by have:=sN 0; simpa [tH] using this]; omega
 exact ⟨z1,z0,z0,z1,z0,z0⟩
theorem Ax {n:Nat} (hn:1≤n):(rg dJ).In n:=by
 obtain ⟨a,b,c,d,e,f⟩:=A5
 exact ⟨ew (by omega),ew (by omega),ew (by omega),ew (by omega),ew (by omega),ew (by omega)⟩
def po (k x y:Int):Sg:=⟨k,fun i=>if i=0 then x else if i=1 then y else 0,0⟩
theorem y9 {k x y:Int} (hk:k=1∨k=2∨(k=6∧x=0∧y=0)) (hx:0≤x∧x≤64) (hy:0≤y∧y≤64):(po k x y).Good:=by
 have hc:mF k=2∨(x=0∧y=0):=by
  rcases hk with rfl|rfl|⟨_,h⟩
  ·exact .inl rfl
  ·exact .inl rfl
  ·exact .inr h
 refine ⟨by unfold po; simp only; omega,by unfold po; simp only; omega,fun i hi=>?_,by unfold po; simp only; rw [if_neg (by omega)]; trivial⟩
 unfold po
 simp only
 split
 ·refine ⟨by omega,by omega,fun h=>?_⟩; rcases hc with hc|hc
  ·omega
  ·exact hc.1
 ·split
  ·refine ⟨by omega,by omega,fun h=>?_⟩; rcases hc with hc|hc
   ·omega
   ·exact hc.2
  ·exact ⟨by omega,by omega,fun _=>rfl⟩
def ug:List Sg:=[po 1 0 0,po 2 64 0,po 2 64 64,po 2 0 0,po 6 0 0]
theorem q9:dR ug:=by
 refine ⟨by simp [ug],by simp [ug],fun s hs=>?_,fun s hs=>?_,?_⟩
 ·have:s=po 1 0 0:=by simpa [ug] using hs.symm
  rw [this]; rfl
 ·simp only [ug,List.mem_cons,List.not_mem_nil,or_false] at hs
  rcases hs with rfl|rfl|rfl|rfl|rfl<;>exact y9 (by omega) (by omega) (by omega)
 ·refine ⟨fun h=>?_,fun h=>?_,fun h=>?_,fun h=>?_,trivial⟩
  ·exact absurd h.1 (by decide)
  ·exact absurd h.1 (by decide)
  ·exact absurd h.1 (by decide)
  ·exact absurd h.1 (by decide)
theorem ws:lG ug dJ 1=([([wP 0 0,wP 1 0,wP 1 1],true)],0):=by
 have e1:j5 ug=[⟨0,0,[po 2 64 0,po 2 64 64,po 2 0 0],true⟩]:=rfl
 have e2:lS dJ 1 ⟨0,0,[po 2 64 0,po 2 64 64,po 2 0 0],true⟩=[bf 0 0,bf 64 0,bf 64 64,bf 0 0]:=by
  unfold lS
  rw [ml (by decide +kernel) _ _ (fun s hs=>by
   simp only [List.mem_cons,List.not_mem_nil,or_false] at hs
   rcases hs with rfl|rfl|rfl<;>rfl)]
  simp only [tJ,List.map_cons,List.map_nil]
  rfl
 have e3:dW [bf 0 0,bf 64 0,bf 64 64,bf 0 0] true=[wP 0 0,wP 1 0,wP 1 1]:=by decide +kernel
 unfold lG
 rw [if_neg (fun h=>h q9),if_neg (by decide +kernel)]
 unfold oE
 rw [e1]
 simp only [List.map_cons,List.map_nil,qT,e2,e3]
theorem C1 (l:List PQ):tN (l.map pc)=pL l:=by unfold tN pL; rw [List.map_map]; rfl
theorem AO (L:List (List PQ×Bool)):oS L=sE (L.map fun x=>(x.1.map pc,x.2)):=by
 unfold oS sE
 rw [List.map_map]
 congr 1
 refine List.map_congr_left fun x _=>?_
 simp only [Function.comp_apply,mN,dF,C1]
theorem AF (L:List (List PQ×Bool)) (hL:L.length≤1024) (hl:∀p∈L,p.1.length≤1048576) (hp:∀p∈L,∀q∈p.1,q.sz≤1000000):aa Tryz.prog 26 [oS L] (wD (bg (L.map Prod.fst))):=by
 have k:=jZ (L.map fun x=>(x.1.map pc,x.2)) (by simpa using hL) (fun p hh=>by
  obtain ⟨x,hx,rfl⟩:=List.mem_map.1 hh
  simpa using hl x hx) fun p hh q hq=>by
  obtain ⟨x,hx,rfl⟩:=List.mem_map.1 hh
  obtain ⟨y,hy,rfl⟩:=List.mem_map.1 hq
  exact bH (hp x hx y hy)
 rw [←AO,List.map_map] at k
 rw [show (fun p:List PR×Bool=>p.1.map PR.val)∘(fun x:List PQ×Bool=>(x.1.map pc,x.2))=Prod.fst from by funext x; simp only [Function.comp_apply,Ds]] at k
 exact k
@[go_sem] theorem G_ (a b:Int):fu Tryz.prog (some ⟨6,48,.array 6 2,[.int .i64 0,.int .i64 0,.int .i64 0,.int .i64 0,.int .i64 0,.int .i64 0]⟩) [(0,.int .i64 a),(1,.int .i64 b)]=some (True,.agg [.int .i64 a,.int .i64 b,.int .i64 0,.int .i64 0,.int .i64 0,.int .i64 0]):=by
 simp -implicitDefEqProofs [go_sem,fu,iX]
theorem qp:aa Tryz.prog 15 [] (.bool true):=by
 have zw:∀x y:Int,-100≤x∧x≤100 → -100≤y∧y≤100→(wP x y).sz≤1:=fun x y hx hy=>GL (by omega) (by omega)
 have p00:=pm 0 0 (by omega) (by omega)
 have p10:=pm 1 0 (by omega) (by omega)
 have p11:=pm 1 1 (by omega) (by omega)
 have z00:=zw 0 0 (by omega) (by omega)
 have z10:=zw 1 0 (by omega) (by omega)
 have z11:=zw 1 1 (by omega) (by omega)
 have kone:=vD
 have kof:=gz 1 1 (by omega) (by omega) (by omega)
 rw [show ((1:Int):Rat) / ((1:Int):Rat)=1 by decide +kernel] at kof
 have s1:sz (1:Rat)≤1:=by rw [jJ]; exact Nat.le_refl _
 have kl:=r8 ug (rg dJ) (qc 1) (by simp [ug]) (Ax (by omega)) (ew (by omega)) fun _ h0=>by
  have h:=yC (m:=(rg dJ).val) (tol:=(qc 1).val) (l:=ug) h0 (fun q hq=>by rw [tE,tJ]; omega) (by simp [ug]) q9 (fun s hs=>by
   simp only [ug,List.mem_cons,List.not_mem_nil,or_false] at hs
   rcases hs with rfl|rfl|rfl|rfl|rfl<;>simp [po])
  exact ⟨by simp [ug],fun i b=>(h i).1 b⟩
 rw [tE,bD,ws] at kl
 have ke:=AF [([wP 0 0,wP 1 0,wP 1 1],true)] (by simp) (by simp) (fun p hp q hq=>by
  simp only [List.mem_cons,List.not_mem_nil,or_false] at hp
  subst hp
  simp only [List.mem_cons,List.not_mem_nil,or_false] at hq
  rcases hq with rfl|rfl|rfl<;>omega)
 have e1:bg ([([wP 0 0,wP 1 0,wP 1 1],true)].map Prod.fst)=[(wP 1 0,wP 1 1),(wP 1 1,wP 0 0)]:=by decide +kernel
 rw [e1] at ke
 have ks1:=iL (wP 1 1) (by omega)
 have ks2:=iL (wP 1 0) (by omega)
 have ks3:=iL (wP 0 0) (by omega)
 have m0:(rg dJ).cs.length=18:=rfl
 have m2:=(rg dJ).ro_cs
 have hW:mO ug = .sl 8 false [.agg [.int .i64 1,.int .i64 0,.int .i64 0,.int .i64 0,.int .i64 0,.int .i64 0,.int .i64 0,.int .i64 0],.agg [.int .i64 2,.int .i64 64,.int .i64 0,.int .i64 0,.int .i64 0,.int .i64 0,.int .i64 0,.int .i64 0],.agg [.int .i64 2,.int .i64 64,.int .i64 64,.int .i64 0,.int .i64 0,.int .i64 0,.int .i64 0,.int .i64 0],.agg [.int .i64 2,.int .i64 0,.int .i64 0,.int .i64 0,.int .i64 0,.int .i64 0,.int .i64 0,.int .i64 0],.agg [.int .i64 6,.int .i64 0,.int .i64 0,.int .i64 0,.int .i64 0,.int .i64 0,.int .i64 0,.int .i64 0]]:=rfl
 rw [hW] at kl
 unfold vz oS at kl
 unfold oS wD at ke
 simp only [List.map_cons,List.map_nil,mN,s5,pL] at kl ke
 rw [show (qc 1).av=rA 1 from rfl] at kl
 unfold MR.av at kone kl
 generalize (rg dJ).cs=S at *
 generalize wP 0 0=a at *
 generalize wP 1 0=b at *
 generalize wP 1 1=c at *
 simp only [bS] at *
 have gE2:∀a b c:AV,aV [a,b,c] 2=c:=fun _ _ _=>rfl
 have gE1:∀a b:AV,aV [a,b] 1=b:=fun _ _=>rfl
 have gE0:∀a b:AV,aV [a,b] 0=a:=fun _ _=>rfl
 have d6:∀p q:PQ,(pC p++pC q).drop 6=pC q:=fun _ _=>rfl
 have t6:∀p q:PQ,(pC p++pC q).take 6=pC p:=fun _ _=>rfl
 refine Pg Tryz.func15 rfl [.tmp 0] rfl (by simp -implicitDefEqProofs [go_sem]) ?_
 simp -implicitDefEqProofs [go_sem]
 refine ab kone ?_
 simp -implicitDefEqProofs [go_sem]
 refine ab kof ?_
 simp -implicitDefEqProofs [go_sem]
 refine ou 0 _ (fun K hK=>CA.of_pure_dead [0] kl (by simp -implicitDefEqProofs [go_sem,viewL_ro _ _ m2,uf _ _ (bI 1)]) (by simp -implicitDefEqProofs [go_sem,m2,bI]) (by simp -implicitDefEqProofs [go_sem,fitsL_ro _ _ m2,s8 _ _ (bI 1)]) (by simp -implicitDefEqProofs [go_sem]) (hK _ fun j hj=>lD hj)) fun f' hf'=>?_
 simp -implicitDefEqProofs [go_sem]
 refine ao _ ke (by simp [go_sem]) ?_
 simp -implicitDefEqProofs [go_sem,gE2,gE1,gE0]
 refine ag p11 ?_
 simp -implicitDefEqProofs [go_sem,gE2,gE1,gE0]
 refine ag ks1 ?_
 simp -implicitDefEqProofs [go_sem,gE2,gE1,gE0,d6,t6]
 refine ag p10 ?_
 simp -implicitDefEqProofs [go_sem,gE2,gE1,gE0,d6,t6]
 refine ag ks2 ?_
 simp -implicitDefEqProofs [go_sem,gE2,gE1,gE0,d6,t6]
 refine ag p00 ?_
 simp -implicitDefEqProofs [go_sem,gE2,gE1,gE0,d6,t6]
 refine ag ks3 ?_
 simp -implicitDefEqProofs [go_sem,aK]
open Go.ChangeShapes Go.WideShapes Go.ChangeAt Go.RowKit
section
variable {H:Type} {enc:TypeId×Value→H} {w:World}
theorem vJ:kx enc Tryz.prog w 32 fun l=>∃v:List (List PR×Bool),v.length≤9223372036854775807∧(∀p∈v,p.1.length≤9223372036854775807∧∀q∈p.1,q.Lm)∧l=[sE v] :=
 (iq (e:=55) (sz:=2) (by kernel_rfl) (by kernel_rfl) (by omega) yG).mono fun l ⟨L,h1,h2,h3⟩=>by
  have key:∃v:List (List PR×Bool),(∀p∈v,p.1.length≤9223372036854775807∧∀q∈p.1,q.Lm)∧L=v.map dF:=by
   clear h1 h2
   induction L with
   | nil=>exact ⟨[],by simp,rfl⟩
   | cons a L ih =>
    obtain ⟨v,k1,rfl⟩:=ih fun x hx=>h3 x (by simp [hx])
    obtain ⟨l',⟨p,c,g1,g2,rfl⟩,rfl⟩:=h3 a (by simp)
    refine ⟨(p,c)::v,fun x hx=>?_,rfl⟩
    rcases List.mem_cons.1 hx with rfl|hx
    ·exact ⟨g1,g2⟩
    ·exact k1 x hx
  obtain ⟨v,k1,rfl⟩:=key
  exact ⟨v,by simpa using h2,k1,h1⟩
end
theorem rJ (E:List (PQ×PQ)) (hE:E.length≤1048576) (hs:∀e∈E,e.1.sz≤4294967296∧e.2.sz≤4294967296):aa Tryz.prog 25 [wD E,wD E] (.bool true):=by
 refine Pg Tryz.func25 rfl [.tmp 4] rfl (by simp -implicitDefEqProofs [go_sem]) ?_
 have hg0:∀i (h:i<E.length),aV (E.map s5) (i:Int) = .agg (pC E[i].1++pC E[i].2):=fun i h=>iZ h
 have hPl:(E.map s5).length=E.length:=by simp
 have hr:=lV E
 unfold wD
 generalize E.map s5=U at *
 simp -implicitDefEqProofs [go_sem]
 refine aj 0 (α:={i:Nat // i≤E.length}) (fun i=>[(0,.sl 12 false U),(1,.sl 12 false U),(5,.int .i64 i.1)]) (fun i=>[]) (fun i=>E.length-i.1) ⟨0,by omega⟩ [] (by simp) (by simp) (by simp) (by simp -implicitDefEqProofs [go_sem,renL_ro (nm []) _ hr,cloL_ro (n:=0) _ hr]) (by simp -implicitDefEqProofs [go_sem]) fun ⟨i,hi⟩=>?_
 by_cases a:i<E.length
 ·have a1:(i:Int)<E.length:=by omega
  have gi:=hg0 i a
  have es:=wS i (by omega)
  have k1:=qw E[i].1 (by have:=(hs _ (List.getElem_mem a)).1; omega)
  have k2:=qw E[i].2 (by have:=(hs _ (List.getElem_mem a)).2; omega)
  have dx:(pC E[i].1++pC E[i].2).take 6=pC E[i].1:=rfl
  have dy:((pC E[i].1++pC E[i].2).drop 6).take 6=pC E[i].2:=rfl
  rw [bS] at k1 k2
  generalize E[i].1=x at *
  generalize E[i].2=y at *
  simp -implicitDefEqProofs [go_sem,a1,a,hPl,gi,dx,dy]
  refine ag k1 ?_
  simp -implicitDefEqProofs [go_sem,a1,a,hPl,gi,dx,dy]
  refine ag k2 ?_
  simp -implicitDefEqProofs [go_sem,es]
  exact ac ⟨i+1,by omega⟩ (by simp only; omega) [] (by simp) (by simp) (by simp) (by simp -implicitDefEqProofs [go_sem,renL_ro (nm []) _ hr,cloL_ro (n:=0) _ hr]) (by simp -implicitDefEqProofs [go_sem])
 ·have a1:¬(i:Int)<E.length:=by omega
  simp -implicitDefEqProofs [go_sem,a1,hPl]
def j6 (x:List PQ×Bool):AV := .agg [eL x.1,.bool x.2]
theorem tV (x:List PQ×Bool):ro (j6 x):=by unfold j6; simp only [ro,roL,eL]; exact ⟨dv _,trivial,trivial⟩
theorem tS (L:List (List PQ×Bool)):roL (L.map j6):=br tV
def B8 (L:List (List PQ×Bool)):AV := .sl 2 false (L.map j6)
theorem yz (x:List PR×Bool) (hl:x.1.length<1099511627) (hs:∀p∈x.1,p.In 4294967296):aa Tryz.prog 24 [dF x] (j6 (x.1.map PR.val,x.2)):=by
 obtain ⟨l,c⟩:=x
 have k:=uJ l hl hs
 refine aa.of_ca (tV _) (Cz Tryz.func24 rfl [.cell 2 59] rfl ?_)
 have r1:=yZ l
 have r2:ro (eL (l.map PR.val)):=by unfold eL; simp only [ro]; exact dv _
 unfold dF j6
 unfold tN eL at *
 simp only at *
 generalize (l.map PR.val).map eA=E at *
 generalize l.map PR.av=A at *
 simp only [ro] at r1 r2
 simp -implicitDefEqProofs [go_sem]
 refine bP (by kernel_rfl) ?_
 simp -implicitDefEqProofs [go_sem]
 refine aO _ k (by simp [go_sem,r1]) ?_
 simp -implicitDefEqProofs [go_sem,aK,r2,fitsL_ro _ _ r2]
 exact Wk.refl _
theorem oO (L:List (List PQ×Bool)) (hL:L.length≤1024) (hl:∀l∈L,l.1.length≤16384) (hs:∀l∈L,∀p∈l.1,p.sz≤4294967296):aa Tryz.prog 28 [B8 L] (mG (bg (L.map Prod.fst))):=by
 refine aa.of_ca (oZ _) (Cg Tryz.func28 rfl [.tmp 2] rfl ?_)
 have hPl:(L.map j6).length=L.length:=by simp
 have hg0:∀i (h:i<L.length),aV (L.map j6) (i:Int) = .agg [.sl 6 false (L[i].1.map eA),.bool L[i].2]:=fun i h=>iZ h
 have hr:=tS L
 unfold B8
 generalize L.map j6=U at *
 have hEl:∀i,i≤L.length→(bg ((L.take i).map Prod.fst)).length≤i*16384:=fun i hi=>by
  refine Nat.le_trans (jv (n:=16384) fun l h=>by obtain ⟨x,hx,rfl⟩:=List.mem_map.1 h; exact hl x (List.mem_of_mem_take hx)) (by rw [List.length_map,List.length_take]; exact Nat.mul_le_mul_right _ (by omega))
 obtain ⟨H,hH⟩:∃H:Nat→List AV,H=fun i=>(bg ((L.take i).map Prod.fst)).map iV:=⟨_,rfl⟩
 have hHr:∀i,roL (H i):=fun i=>by rw [hH]; exact jd _
 have hH0:H 0=[]:=by rw [hH]; rfl
 have hHe:mG (bg (L.map Prod.fst)) = .sl 12 false (H L.length):=by rw [hH]; simp only; rw [List.take_of_length_le (by omega)]; rfl
 have hHl:∀i,i≤L.length→(H i).length≤16777216:=fun i hi=>by
  have:=hEl i hi
  rw [hH,List.length_map]
  omega
 rw [hHe]
 simp -implicitDefEqProofs [go_sem]
 refine aj 2 (α:={i:Nat // i≤L.length}) (fun i=>[(0,.sl 2 false U),(3,if i.1=0 then .sl 0 true [] else .own 12 1 0 (H i.1).length),(4,.int .i64 i.1)]) (fun i=>if i.1=0 then [] else [(1,.live 12 (H i.1))]) (fun i=>L.length-i.1) ⟨0,Nat.zero_le _⟩ [] (by simp) (fun _ _ _ _ h=>h) (by simp) (by simp -implicitDefEqProofs [go_sem,renL_ro (nm []) _ hr,cloL_ro (n:=2) _ hr]) (by simp -implicitDefEqProofs [go_sem]) fun ⟨i,hi⟩=>?_
 have hHi:=hHl i hi
 have hHir:=hHr i
 have hHir1:=hHr (i+1)
 by_cases a:i<L.length
 ·have a1:(i:Int)<L.length:=by omega
  have gi:=hg0 i a
  have ho:=rM L[i].1 (by have:=hl _ (List.getElem_mem a); omega) (hs _ (List.getElem_mem a))
  have hE1:H (i+1)=H i++(fg L[i].1).map iV:=by
   rw [hH]
   simp only
   rw [List.take_succ_eq_append_getElem (by omega),List.map_append,List.map_cons,List.map_nil,kZ,List.map_append]
  have es:=wS i (by omega)
  have hRl:((fg L[i].1).map iV).length≤16384:=by
   have h1:=gY L[i].1 L[i].1.length
   have h2:=hl _ (List.getElem_mem a)
   rw [List.length_map,←nF]; omega
  have hRr:=jd (fg L[i].1)
  have xr:=dv L[i].1
  unfold eL mG at ho
  generalize (fg L[i].1).map iV=R at *
  generalize L[i].1.map eA=X at *
  have hrn:=fun rn=>renL_ro rn _ hr
  have hH1r:=fun rn=>renL_ro rn _ hHir1
  have hH1c:=cloL_ro (n:=2) _ hHir1
  have w1:IntKind.i64.wrap 1=1:=bQ (by omega)
  by_cases i0:i=0
  ·subst i0
   rw [hH0,List.nil_append] at hE1
   rw [show ((0:Nat):Int)=0 from rfl] at gi a1
   simp -implicitDefEqProofs [go_sem,a1,a,hPl,gi]
   refine ao _ ho (by simp [go_sem,xr]) ?_
   simp -implicitDefEqProofs [go_sem,hRr,fitsL_ro _ _ hRr]
   refine ⟨by omega,?_⟩
   rw [←hE1]
   simp -implicitDefEqProofs [go_sem,es,w1]
   exact ac ⟨1,a⟩ (by simp only; omega) [(1,2)] (by simp) (by simp [nm]) (by simp) (by simp -implicitDefEqProofs [go_sem,hE1,w1,hrn,cloL_ro (n:=2) _ hr]) (by simp -implicitDefEqProofs [go_sem,hH1r,hH1c])
  ·simp -implicitDefEqProofs [go_sem,a1,a,hPl,gi,i0]
   refine ao _ ho (by simp [go_sem,xr]) ?_
   simp -implicitDefEqProofs [go_sem,hRr,fitsL_ro _ _ hRr]
   refine ⟨by omega,?_⟩
   have hl1:(H (i+1)).length=(H i).length+R.length:=by rw [hE1,List.length_append]
   rw [←hE1,←hl1]
   simp -implicitDefEqProofs [go_sem,es]
   exact ac ⟨i+1,a⟩ (by simp only; omega) [(1,2)] (by simp) (by simp [nm]) (by simp) (by simp -implicitDefEqProofs [go_sem,hrn,cloL_ro (n:=2) _ hr]) (by simp -implicitDefEqProofs [go_sem,hH1r,hH1c])
 ·have hii:i=L.length:=by omega
  have a1:¬(i:Int)<L.length:=by omega
  subst hii
  by_cases i0:L.length=0
  ·have hHL:H L.length=[]:=by rw [i0,hH0]
   simp -implicitDefEqProofs [go_sem,a1,hPl,i0,hHL,hH0]
   exact Wk.nil 0 12 true
  ·simp -implicitDefEqProofs [go_sem,a1,hPl,i0,hHir]
   exact Wk.refl _
theorem jb (L:List (List PR×Bool)) (hL:L.length≤9223372036854775807) (hp:∀p∈L,p.1.length≤9223372036854775807∧∀q∈p.1,q.Lm):aa Tryz.prog 4 [sE L] (.bool true):=by
 have kw:=qp
 have hPl:(L.map dF).length=L.length:=by simp
 have hg0:∀i (h:i<L.length),aV (L.map dF) (i:Int) = .agg [.sl 6 false (L[i].1.map PR.av),.bool L[i].2]:=fun i h=>ll h
 have hr:=qG L
 have kall:=jZ L
 refine aa.of_ca (by simp -implicitDefEqProofs [go_sem]) (Cg Tryz.func4 rfl [.tmp 2] rfl ?_)
 unfold sE at *
 by_cases a0:20<L.length
 ·have a1:(20:Int)<L.length:=by omega
  generalize L.map dF=U at *
  simp -implicitDefEqProofs [go_sem,a1,hPl]
  refine ab kw ?_
  simp -implicitDefEqProofs [go_sem]
  exact Wk.refl _
 have a1:¬(20:Int)<L.length:=by omega
 obtain ⟨fv,hfv⟩:∃fv:List PR×Bool→List PQ×Bool,fv=fun x=>(x.1.map PR.val,x.2):=⟨_,rfl⟩
 obtain ⟨G,hG⟩:∃G:Nat→List AV,G=fun i=>((L.take i).map fv).map j6:=⟨_,rfl⟩
 have hGr:∀i,roL (G i):=fun i=>by rw [hG]; exact tS _
 have hGl:∀i,(G i).length≤20:=fun i=>by rw [hG]; simp only [List.length_map,List.length_take]; omega
 have hG0:G 0=[]:=by rw [hG]; rfl
 have hGs:∀i (h:i<L.length),G (i+1)=G i++[.agg [.sl 6 false ((L[i].1.map PR.val).map eA),.bool L[i].2]]:=fun i h=>by
  rw [hG]; simp only
  rw [List.take_succ_eq_append_getElem h,List.map_append,List.map_append]
  rw [hfv]; rfl
 generalize hU:L.map dF=U at *
 simp -implicitDefEqProofs [go_sem,a1,hPl]
 refine aj 1 (α:={i:Nat // i≤L.length∧∀x∈L.take i,x.1.length≤30∧∀q∈x.1,q.In 4}) (fun i=>[(0,.sl 2 false U),(3,cF 2 0 (G i.1)),(4,.int .i64 i.1)]) (fun i=>eN 2 0 (G i.1)) (fun i=>L.length-i.1) ⟨0,Nat.zero_le _,by simp⟩ [] (by simp) (fun _ _ _ _ h=>h) (by simp) (by simp -implicitDefEqProofs [go_sem,hG0,renL_ro (nm []) _ hr,cloL_ro (n:=1) _ hr]) (by simp -implicitDefEqProofs [go_sem,hG0]) fun ⟨i,hi,hPi⟩=>?_
 have hGi:=hGr i
 have hGli:=hGl i
 by_cases a:i<L.length
 ·have a2:(i:Int)<L.length:=by omega
  have es:=wS i (by omega)
  have gi:=hg0 i a
  have hG1:=hGs i a
  have hG1r:=hGr (i+1)
  have hpi:=hp _ (List.getElem_mem a)
  have htk:∀s∈L.take (i+1),s∈L.take i∨s=L[i]:=fun s hs=>by
   rw [List.take_succ_eq_append_getElem a,List.mem_append,List.mem_singleton] at hs
   exact hs
  generalize L[i]=x at *
  obtain ⟨p,c⟩:=x
  simp only at *
  have kin:=yz (p,c)
  have kse:=mh p 4 hpi.1
  have prr:=lX p
  have ppl:(p.map PR.av).length=p.length:=by simp
  unfold dF j6 tN eL at kin
  unfold tN at kse
  simp only at kin
  by_cases b0:30<p.length
  ·have b1:(30:Int)<p.length:=by omega
   simp -implicitDefEqProofs [go_sem,a,a2,hPl,gi,ppl,b1]
   refine ab kw ?_
   simp -implicitDefEqProofs [go_sem]
   exact Wk.refl _
  have b1:¬(30:Int)<p.length:=by omega
  by_cases b2:∀q∈p,q.x.sml 4∧q.y.sml 4
  rotate_left
  ·simp -implicitDefEqProofs [go_sem,a,a2,hPl,gi,ppl,b1]
   refine ao _ kse (by simp [go_sem,prr]) ?_
   simp -implicitDefEqProofs [go_sem,b2]
   refine ab kw ?_
   simp -implicitDefEqProofs [go_sem]
   exact Wk.refl _
  have hin:∀q∈p,q.In 4:=fun q hq=>⟨zk (b2 q hq).1 (hpi.2 q hq).1,zk (b2 q hq).2 (hpi.2 q hq).2⟩
  have kin:=kin (by omega) fun q hq=>(hin q hq).mono
  have her:=dv (p.map PR.val)
  generalize p.map PR.av=PP at *
  generalize (p.map PR.val).map eA=EE at *
  simp -implicitDefEqProofs [go_sem,a,a2,hPl,gi,ppl,b1]
  refine ao _ kse (by simp [go_sem,prr]) ?_
  simp -implicitDefEqProofs [go_sem,eq_true b2,gi,hPl,a]
  refine ao _ kin (by simp [go_sem,prr]) ?_
  simp -implicitDefEqProofs [go_sem]
  refine aQ (.inl rfl) (by omega) (by omega) (by simp -implicitDefEqProofs [go_sem]) (by simp<;>omega) (by simp -implicitDefEqProofs [go_sem]) ?_
  simp -implicitDefEqProofs [go_sem,es]
  have r1:=renL_ro (nm [(0,2)]) _ hG1r
  have r2:=cloL_ro (n:=1) _ hG1r
  have aps:cF 2 0 (G (i+1)) = .own 2 0 0 ((G i).length+1):=by rw [hG1,aT (by simp),List.length_append]; rfl
  have apbs:eN 2 0 (G (i+1))=[(0,.live 2 (G (i+1)))]:=a7 (by rw [hG1]; simp)
  rw [←hG1]
  exact ac ⟨i+1,a,fun s hs=>by
   rcases htk s hs with h|h
   ·exact hPi s h
   ·rw [h]; exact ⟨by simp only; omega,hin⟩⟩ (by simp only; omega) [(0,2)] (by simp) (by simp only [apbs]; simp [nm]) (by simp) (by simp only [aps]; simp -implicitDefEqProofs [go_sem,renL_ro (nm [(0,2)]) _ hr,cloL_ro (n:=1) _ hr]) (by simp only [apbs]; simp -implicitDefEqProofs [go_sem,r1,r2])
 ·have a2:¬(i:Int)<L.length:=by omega
  have hii:i=L.length:=by omega
  have hPi:∀x∈L,x.1.length≤30∧∀q∈x.1,q.In 4:=fun x hx=>hPi x (by rw [hii,List.take_length]; exact hx)
  have k1:=kall (by omega) (fun x hx=>by have:=(hPi x hx).1; omega) fun x hx q hq=>((hPi x hx).2 q hq).mono
  have hz:∀x∈L.map fv,∀q∈x.1,q.sz≤4:=fun x hx q hq=>by
   obtain ⟨y,hy,rfl⟩:=List.mem_map.1 hx
   rw [hfv] at hq
   obtain ⟨z,hz,rfl⟩:=List.mem_map.1 hq
   exact ((hPi y hy).2 z hz).sz
  have hlen:∀x∈L.map fv,x.1.length≤30:=fun x hx=>by
   obtain ⟨y,hy,rfl⟩:=List.mem_map.1 hx
   rw [hfv]; simp only [List.length_map]; exact (hPi y hy).1
  have hEf:(L.map fv).map Prod.fst=L.map fun p=>p.1.map PR.val:=by rw [List.map_map,hfv]; rfl
  have k2:=oO (L.map fv) (by rw [List.length_map]; omega) (fun x hx=>by have:=hlen x hx; omega) fun x hx q hq=>by have:=hz x hx q hq; omega
  rw [hEf] at k2
  have hEl:(bg (L.map fun p=>p.1.map PR.val)).length≤1048576:=by
   have:=jv (L:=L.map fun p=>p.1.map PR.val) (n:=30) fun x hx=>by
    obtain ⟨y,hy,rfl⟩:=List.mem_map.1 hx
    rw [List.length_map]; exact (hPi y hy).1
   rw [List.length_map] at this
   omega
  have hEz:∀e∈bg (L.map fun p=>p.1.map PR.val),e.1.sz≤4294967296∧e.2.sz≤4294967296:=fun e he=>by
   have:=zn (n:=4) (fun x hx q hq=>by
    obtain ⟨y,hy,rfl⟩:=List.mem_map.1 hx
    obtain ⟨z,hz,rfl⟩:=List.mem_map.1 hq
    exact ((hPi y hy).2 z hz).sz) e he
   omega
  have k3:=k9 _ hEl hEz
  have k4:=rJ _ hEl hEz
  have hGe:G i=(L.map fv).map j6:=by rw [hG]; simp only; rw [hii,List.take_length]
  unfold B8 at k2
  rw [←hGe] at k2
  have re:=sB (bg (L.map fun p=>p.1.map PR.val))
  have ree:=oZ (bg (L.map fun p=>p.1.map PR.val))
  generalize wD (bg (L.map fun p=>p.1.map PR.val))=E1 at *
  generalize mG (bg (L.map fun p=>p.1.map PR.val))=E2 at *
  simp -implicitDefEqProofs [go_sem,a2,hPl]
  refine ao _ k1 (by simp [go_sem,hr]) ?_
  simp -implicitDefEqProofs [go_sem]
  refine ou 0 E2 (fun K hK=>?_) fun f' hf'=>?_
  ·by_cases hGn:G i=[]
   ·rw [hGn] at k2 ⊢
    exact CA.of_pure_ro (k2.args (.cons (Wk.nil 0 2 true) .nil)) (by simp -implicitDefEqProofs [go_sem]) (hK _ fun j hj=>by rw [hGn])
   ·refine CA.of_pure_dead [0] k2 ?_ ?_ ?_ ?_ (hK _ fun j hj=>lD hj)
    ·simp -implicitDefEqProofs [go_sem,aT hGn,a7 hGn,hGn]
    ·simp -implicitDefEqProofs [go_sem,hGi]
    ·simp -implicitDefEqProofs [go_sem,aT hGn,a7 hGn,hGn,fitsL_ro _ _ hGi]
    ·simp -implicitDefEqProofs [go_sem,a7 hGn,hGn]
  simp -implicitDefEqProofs [go_sem]
  refine ao _ k3 (by simp [go_sem,ree]) ?_
  simp -implicitDefEqProofs [go_sem]
  refine ao _ k4 (by simp [go_sem,re]) ?_
  simp -implicitDefEqProofs [go_sem]
  refine ab kw ?_
  simp -implicitDefEqProofs [go_sem]
  exact Wk.refl _
end Go.Proofs.YtdnmfaljidjijaaGreat
