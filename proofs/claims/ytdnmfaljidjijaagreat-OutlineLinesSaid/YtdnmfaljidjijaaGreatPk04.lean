import Derived.Test.YtdnmfaljidjijaaGreatPk03
import Derived.Test.YtdnmfaljidjijaaGreatRows
namespace Go.Proofs.YtdnmfaljidjijaaGreat
set_option maxHeartbeats 64000000
open Go Go.Proofs
set_option linter.unusedSimpArgs false
set_option linter.unusedVariables false
instance (v:List HQ) (tol:Rat):Decidable (cY v tol):=inferInstanceAs (Decidable (∀h∈v,mX h.P (v.headD hQ0).P (v.getLastD hQ0).P≤tol*tol))
def dq (tol:Rat):Nat→List HQ→List PQ
 | 0,v=>[(v.getLastD hQ0).P]
 | k+1,v=>if cY v tol then [(v.getLastD hQ0).P] else dq tol k (aW v.length v)++dq tol k (aX v.length v)
def cV (tol:Rat):Nat→List HQ→Nat
 | 0,_=>0
 | k+1,v=>if cY v tol then 0 else 1+max (cV tol k (aW v.length v)) (cV tol k (aX v.length v))
def kK (tol:Rat):Nat→List HQ→Nat
 | 0,_=>1
 | k+1,v=>if cY v tol then 1 else 1+(kK tol k (aW v.length v)+kK tol k (aX v.length v))
def Tr (tol:Rat) (n:Nat):Nat→List HQ→Prop
 | 0,v=>(bX v∧∀h∈v,h.sz≤n)∧cY v tol
 | k+1,v=>(bX v∧∀h∈v,h.sz≤n)∧(¬cY v tol→Tr tol n k (aW v.length v)∧Tr tol n k (aX v.length v))
theorem Tr.good {tol:Rat} {n k:Nat} {v:List HQ} (h:Tr tol n k v):bX v∧∀h∈v,h.sz≤n:=by
 cases k<;>exact h.1
theorem ol (tol:Rat) (k:Nat) (v:List HQ):1≤kK tol k v:=by
 cases k with
 | zero=>exact Nat.le_refl _
 | succ k=>unfold kK; split<;>omega
theorem gN (tol:Rat):∀(k:Nat) (v:List HQ),(dq tol k v).length≤2 ^ k
 | 0,v=>by simp [dq]
 | k+1,v=>by
  have h1:=gN tol k (aW v.length v)
  have h2:=gN tol k (aX v.length v)
  have:=Nat.pow_pos (n:=k) (show 0<2 by omega)
  rw [Nat.pow_succ]
  unfold dq
  split
  ·simp; omega
  ·simp only [List.length_append]; omega
structure Pz (E:Nat) (h:HQ):Prop where
 x:∃z:Int,h.x*(E:Rat)=z
 y:∃z:Int,h.y*(E:Rat)=z
 w:∃z:Int,h.w*(E:Rat)=z
theorem sG {E:Nat} {a b:Rat} (ha:∃z:Int,a*(E:Rat)=z) (hb:∃z:Int,b*(E:Rat)=z):∃z:Int,br a b*((2*E:Nat):Rat)=z:=by
 obtain ⟨x,hx⟩:=ha
 obtain ⟨y,hy⟩:=hb
 refine ⟨x+y,?_⟩
 have e:((2*E:Nat):Rat)=2*(E:Rat):=by norm_cast
 have e2:((x+y:Int):Rat)=(x:Rat)+(y:Rat):=by norm_cast
 rw [e,e2,←hx,←hy]
 unfold br dW
 grind
theorem sH {E k:Nat} {a:Rat} (ha:∃z:Int,a*(E:Rat)=z):∃z:Int,a*((k*E:Nat):Rat)=z:=by
 obtain ⟨x,hx⟩:=ha
 refine ⟨k*x,?_⟩
 have e:((k*E:Nat):Rat)=(k:Rat)*(E:Rat):=by norm_cast
 have e2:(((k:Int)*x:Int):Rat)=(k:Rat)*(x:Rat):=by norm_cast
 rw [e,e2,←hx]
 grind
theorem Pz.mid {E:Nat} {a b:HQ} (ha:Pz E a) (hb:Pz E b):Pz (2*E) (a.mid b):=⟨sG ha.x hb.x,sG ha.y hb.y,sG ha.w hb.w⟩
theorem Pz.up {E:Nat} {a:HQ} (k:Nat) (ha:Pz E a):Pz (k*E) a:=⟨sH ha.x,sH ha.y,sH ha.w⟩
theorem oL {Q R:HQ→Prop} (hQ:∀a b,Q a→Q b→R (a.mid b)):∀ {l:List HQ},(∀x∈l,Q x)→∀x∈iy l,R x
 | [],_,x,hx=>by simp [iy] at hx
 | [_],_,x,hx=>by simp [iy] at hx
 | a::b::r,h,x,hx=>by
  simp only [iy,List.mem_cons] at hx
  rcases hx with rfl|hx
  ·exact hQ a b (h a (by simp)) (h b (by simp))
  ·exact oL hQ (l:=b::r) (fun y hy=>h y (by simp at hy ⊢; exact .inr hy)) x hx
theorem yI {E:Nat} {v:List HQ} (h:∀x∈v,Pz E x):∀i,∀x∈cS i v,Pz (2 ^ i*E) x
 | 0=>fun x hx=>by have:=h x hx; simpa using this
 | i+1=>fun x hx=>by
  have:=oL (R:=fun x=>Pz (2 ^ (i+1)*E) x) (fun a b ha hb=>by have:=Pz.mid ha hb; rwa [show 2 ^ (i+1)*E=2*(2 ^ i*E) by rw [Nat.pow_succ]; simp only [Nat.mul_assoc,Nat.mul_left_comm,Nat.mul_comm]]) (yI h i)
  exact this x hx
theorem Gt {E:Nat} {v:List HQ} (hl:v.length≤4) (h:∀x∈v,Pz E x):(∀x∈aW v.length v,Pz (8*E) x)∧∀x∈aX v.length v,Pz (8*E) x:=by
 obtain ⟨h1,h2⟩:=rG (l:=v) v.length (Nat.le_refl _)
 have key:∀i,i<v.length→∀x∈cS i v,Pz (8*E) x:=fun i hi x hx=>by
  have:=yI h i x hx
  rcases (by omega:i=0∨i=1∨i=2∨i=3) with rfl|rfl|rfl|rfl
  ·have:=this.up 8; simpa using this
  ·have:=this.up 4; rwa [show 4*(2 ^ 1*E)=8*E by omega] at this
  ·have:=this.up 2; rwa [show 2*(2 ^ 2*E)=8*E by omega] at this
  ·exact this
 exact ⟨fun x hx=>by obtain ⟨i,hi,hh⟩:=h1 x hx; exact key i hi x hh,fun x hx=>by obtain ⟨i,hi,hh⟩:=h2 x hx; exact key i hi x hh⟩
theorem Bu (x:Rat) {E:Nat} (h:x.den ∣ E):∃z:Int,x*(E:Rat)=z:=by
 obtain ⟨k,rfl⟩:=h
 refine ⟨x.num*k,?_⟩
 have e:((x.den*k:Nat):Rat)=(x.den:Rat)*(k:Rat):=by norm_cast
 have e2:((x.num*(k:Int):Int):Rat)=(x.num:Rat)*(k:Rat):=by norm_cast
 rw [e,e2,←Rat.mul_assoc]
 congr 1
 have h1:=Rat.mkRat_self x
 rw [Rat.mkRat_eq_div] at h1
 have h2:(x.den:Rat)≠0:=by exact_mod_cast x.den_nz
 generalize (x.den:Rat)=d at *
 generalize (x.num:Rat)=n at *
 grind
theorem C7 {E:Nat} (hE:0<E) {x:Rat} (hx:∃z:Int,x*(E:Rat)=z) (hw:Wi 4096 x):sz x≤nl E+1:=by
 obtain ⟨z,hz⟩:=hx
 have hE0:(0:Rat)<(E:Rat):=by exact_mod_cast hE
 have ex:x=mkRat z E:=by
  rw [Rat.mkRat_eq_div]
  have:((z:Int):Rat) / ((E:Nat):Rat)*((E:Nat):Rat)=z:=by grind
  have h2:(x-((z:Int):Rat) / ((E:Nat):Rat))*(E:Rat)=0:=by grind
  rcases Rat.mul_eq_zero.1 h2 with h|h
  ·have:((E:Nat):Int)=(E:Int):=rfl
   grind
  ·exfalso; grind
 have hz2:z.natAbs≤4096*E:=by
  obtain ⟨h1,h2⟩:=hw
  have n1:=Rat.mul_nonneg (show 0≤4096-x by grind) (show (0:Rat)≤E by grind)
  have n2:=Rat.mul_nonneg (show 0≤4096+x by grind) (show (0:Rat)≤E by grind)
  have n3:(z:Rat)≤((4096*E:Nat):Int):=by
   rw [←hz]; rw [Rat.intCast_natCast,Rat.natCast_mul]; simp; grind
  have n4:(((-(4096*E:Nat):Int)):Rat)≤(z:Rat):=by
   rw [←hz,Rat.intCast_neg,Rat.intCast_natCast,Rat.natCast_mul]; simp; grind
  rw [Rat.intCast_le_intCast] at n3 n4
  omega
 have h1:nl z.natAbs≤nl E+1:=by
  have a:=ec hz2
  have b:=aZ 4096 E
  have c:nl 4096≤1:=oO (by omega)
  omega
 rw [ex]
 have:=pq z (d:=E) (by omega)
 omega
structure Pb (E:Nat) (h:HQ):Prop where
 pz:Pz E h
 bx:Bx h
 w:h.w≤64
theorem Pb.sz {E:Nat} (hE:0<E) {h:HQ} (hp:Pb E h):h.sz≤nl E+1:=by
 obtain ⟨⟨a,b,c⟩,⟨⟨d1,d2⟩,⟨d3,d4⟩,d5⟩,w⟩:=hp
 have h1:=C7 hE a ⟨by grind,by grind⟩
 have h2:=C7 hE b ⟨by grind,by grind⟩
 have h3:=C7 hE c ⟨by grind,by grind⟩
 unfold HQ.sz
 omega
theorem Lh {a b:HQ} (ha:a.w≤64) (hb:b.w≤64):(a.mid b).w≤64:=by unfold HQ.mid br dW; simp only; grind
theorem xg {v:List HQ} (h:∀x∈v,x.w≤64):∀i,∀x∈cS i v,x.w≤64
 | 0=>h
 | i+1=>oL (fun a b ha hb=>Lh ha hb) (xg h i)
theorem JT {v:List HQ} (h:∀x∈v,x.w≤64):(∀x∈aW v.length v,x.w≤64)∧∀x∈aX v.length v,x.w≤64:=by
 obtain ⟨h1,h2⟩:=rG (l:=v) v.length (Nat.le_refl _)
 exact ⟨fun x hx=>by obtain ⟨i,hi,hh⟩:=h1 x hx; exact xg h i x hh,fun x hx=>by obtain ⟨i,hi,hh⟩:=h2 x hx; exact xg h i x hh⟩
theorem DC {tol:Rat} (ht:1 / 64≤tol) {n:Nat}:∀(k:Nat) {e:Rat} {E:Nat} {v:List HQ},Cv e v→0≤e→e≤4 ^ k / 268435456→0<E→(∀h∈v,Pz E h)→(∀h∈v,h.w≤64)→nl (8 ^ k*E)+1≤n→Tr tol n k v
 | 0,e,E,v,hv,h0,he,hE,hz,hw,hn=>⟨⟨hv.good,fun h hh=>Nat.le_trans (Pb.sz hE ⟨hz h hh,hv.box h hh,hw h hh⟩) (by simpa using hn)⟩,hv.flat h0 (by simpa using he) ht⟩
 | k+1,e,E,v,hv,h0,he,hE,hz,hw,hn=>by
  have hm:nl E≤nl (8 ^ (k+1)*E):=ec (Nat.le_mul_of_pos_left _ (Nat.pow_pos (by omega)))
  refine ⟨⟨hv.good,fun h hh=>Nat.le_trans (Pb.sz hE ⟨hz h hh,hv.box h hh,hw h hh⟩) (by omega)⟩,fun _=>?_⟩
  obtain ⟨c1,c2⟩:=hv.cut
  obtain ⟨z1,z2⟩:=Gt hv.good.2.2 hz
  obtain ⟨w1,w2⟩:=JT hw
  have he':e / 4≤4 ^ k / 268435456:=by
   have:(4:Rat) ^ (k+1)=4 ^ k*4:=by rw [Rat.pow_succ]
   rw [this] at he
   grind
  have hn':nl (8 ^ k*(8*E))+1≤n:=by rw [←Nat.mul_assoc,←Nat.pow_succ]; exact hn
  exact ⟨DC ht k c1 (by grind) he' (by omega) z1 w1 hn',DC ht k c2 (by grind) he' (by omega) z2 w2 hn'⟩
theorem zn {a b c:HQ} (ha:Bx a) (hb:Bx b) (hc:Bx c) (wa:a.w≤64) (wb:b.w≤64) (wc:c.w≤64):D2 1 a b c:=by
 obtain ⟨⟨a1,a2⟩,⟨a3,a4⟩,a5⟩:=ha
 obtain ⟨⟨b1,b2⟩,⟨b3,b4⟩,b5⟩:=hb
 obtain ⟨⟨c1,c2⟩,⟨c3,c4⟩,c5⟩:=hc
 exact ⟨⟨by grind,by grind⟩,⟨by grind,by grind⟩,⟨by grind,by grind⟩⟩
theorem JU {v:List HQ} (hG:bX v) (hb:∀h∈v,Bx h) (hw:∀h∈v,h.w≤64):Cv 1 v:=by
 refine ⟨hG,hb,?_⟩
 clear hG
 match v with
 | []=>trivial
 | [_]=>trivial
 | [_,_]=>trivial
 | a::b::c::r =>
  have key:∀r:List HQ,∀b c,(∀h∈b::c::r,Bx h)→(∀h∈b::c::r,h.w≤64)→d2 1 (b::c::r):=by
   intro r
   induction r with
   | nil=>intros; trivial
   | cons d r ih =>
    intro b c h1 h2
    exact ⟨zn (h1 b (by simp)) (h1 c (by simp)) (h1 d (by simp)) (h2 b (by simp)) (h2 c (by simp)) (h2 d (by simp)),ih c d (fun h hh=>h1 h (by simp at hh ⊢; exact .inr hh)) (fun h hh=>h2 h (by simp at hh ⊢; exact .inr hh))⟩
  exact key (c::r) a b hb hw
set_option maxRecDepth 20000
def nc (l:List Rat) (i:Nat):Rat:=(l.take i).foldl (fun m x=>if m<x then x else m) (l.headD 0)
theorem ow {l:List Rat} {i:Nat} (h:i<l.length):nc l (i+1)=if nc l i<l[i] then l[i] else nc l i:=by
 unfold nc
 rw [List.take_succ_eq_append_getElem h,List.foldl_append]; rfl
theorem BR {l:List Rat} {T:Rat} (h0:l≠[]):∀i,i≤l.length→(nc l i≤T↔l.headD 0≤T∧∀x∈l.take i,x≤T)
 | 0,_=>by simp [nc]
 | i+1,hi=>by
  have ih:=BR h0 (T:=T) i (by omega)
  rw [ow (by omega),List.take_succ_eq_append_getElem (by omega)]
  constructor
  ·intro h
   have h1:nc l i≤T∧l[i]≤T:=by split at h<;>grind
   have h2:=ih.1 h1.1
   refine ⟨h2.1,fun x hx=>?_⟩
   rcases List.mem_append.1 hx with hx|hx
   ·exact h2.2 x hx
   ·simp at hx; rw [hx]; exact h1.2
  ·rintro ⟨h1,h2⟩
   have h3:=ih.2 ⟨h1,fun x hx=>h2 x (List.mem_append_left _ hx)⟩
   have h4:=h2 l[i] (List.mem_append_right _ (by simp))
   split<;>assumption
theorem D9 {l:List Rat} {T:Rat} (h0:l≠[]):nc l l.length≤T↔∀x∈l,x≤T:=by
 rw [BR h0 _ (Nat.le_refl _),List.take_length]
 refine ⟨fun h=>h.2,fun h=>⟨?_,h⟩⟩
 cases l with
 | nil=>exact absurd rfl h0
 | cons a r=>exact h a (by simp)
theorem rR {l:List Rat} (h0:l≠[]):∀i,i≤l.length→nc l i∈l
 | 0,_=>by
  cases l with
  | nil=>exact absurd rfl h0
  | cons a r=>simp [nc]
 | i+1,hi=>by
  rw [ow (by omega)]
  split
  ·exact List.getElem_mem _
  ·exact rR h0 i (by omega)
@[go_sem] theorem oW (l:List Rat):roL (l.map rA):=bC cA
@[go_sem] theorem Mw (rn:Nat→Nat) (l:List Rat):renL rn (l.map rA)=l.map rA:=renL_ro rn _ (oW l)
@[go_sem] theorem LJ (n:Nat) (l:List Rat):cloL n (l.map rA):=cloL_ro _ (oW l)
@[go_sem] theorem J5 (f:Nat→BS) (l:List Rat):fitsL f (l.map rA):=fitsL_ro f _ (oW l)
@[go_sem] theorem Lf (f:Nat→BS) (l:List Rat):viewL f (l.map rA)=l.map rA:=viewL_ro f _ (oW l)
theorem xZ {l:List Rat} {i:Nat} (h:i<l.length):bk (l.map rA) (i:Int) = .agg (rC l[i]):=by
 simp [bk,List.getD_eq_getElem?_getD,h,eV]
theorem BP {l:List Rat} (h:0<l.length):bk (l.map rA) 0 = .agg (rC l[0]):=xZ (i:=0) h
theorem pN (l:List Rat) (hl:1≤l.length) (hl2:l.length≤1048576) (hs:∀x∈l,sz x≤17179869184) :
 ab Tryz.prog 322 [.sl 3 false (l.map rA),.fn (.func 31) [] []] (rA (nc l l.length)):=by
 have h0:l≠[]:=fun h=>by subst h; simp at hl
 have hc:=fun (i:Nat) (h:i<l.length)=>C8 l[i] (nc l i) (hs _ (List.getElem_mem h)) (hs _ (rR h0 i (by omega)))
 have hst:=fun (i:Nat) (h:i<l.length)=>ow (l:=l) (i:=i) h
 have hg0:=BP (l:=l) (by omega)
 have hgm:nc l 0=l[0]:=by
  cases l with
  | nil=>exact absurd rfl h0
  | cons a r=>rfl
 rw [←hgm] at hg0
 simp only [eV] at hc
 rw [eV]
 refine Pg Tryz.func322 rfl [.cell 4 27] rfl (by simp -implicitDefEqProofs [go_sem,jR]) ?_
 have hlw:IntKind.i64.wrap (l.length:Int)=l.length:=bO (by omega)
 simp -implicitDefEqProofs [go_sem,hg0]
 refine ⟨by omega,?_⟩
 refine aj 2 (α:={i:Nat // i≤l.length}) (fun i=>[(0,.sl 3 false (l.map rA)),(1,.fn (.func 31) [] []),(4,.ptr 0 0 0),(5,.ptr 1 0 0),(11,.sl 3 false (l.map rA)),(12,.int .i64 l.length),(13,.int .i64 i.1)])
  (fun i=>[(0,.live 3 [.agg [.bool false,.sl 0 true [],.sl 0 true []]]),(1,.live 3 [.agg (rC (nc l i.1))])]) (fun i=>l.length-i.1) ⟨0,Nat.zero_le _⟩ [] (by simp) (fun _ _ _ _ h=>h) (by omega) (by simp -implicitDefEqProofs [go_sem,hlw]) (by simp -implicitDefEqProofs [go_sem]) fun ⟨i,hi⟩=>?_
 simp -implicitDefEqProofs [go_sem]
 refine ⟨fun h5=>?_,fun h5=>?_⟩
 ·have es:=wS i (by omega)
  have e1:=xZ (l:=l) (i:=i) h5
  have h1:=hc i h5
  have h2:=hst i h5
  generalize l[i]=x at *
  simp -implicitDefEqProofs [go_sem,e1]
  refine ⟨by omega,ag h1 ?_⟩
  by_cases hx:nc l i<x
  ·have h3:0<bW x (nc l i):=dG.2 hx
   rw [if_pos hx] at h2
   simp -implicitDefEqProofs [go_sem,h3,es]
   refine ae ⟨i+1,h5⟩ (by simp only; omega) [] (by simp) (fun _ _ _ _ h=>h) (by simp) (by simp -implicitDefEqProofs [go_sem,es]) (by simp -implicitDefEqProofs [go_sem,h2])
  ·have h3:¬0<bW x (nc l i):=fun hh=>hx (dG.1 hh)
   rw [if_neg hx] at h2
   simp -implicitDefEqProofs [go_sem,h3,es]
   refine ae ⟨i+1,h5⟩ (by simp only; omega) [] (by simp) (fun _ _ _ _ h=>h) (by simp) (by simp -implicitDefEqProofs [go_sem,es]) (by simp -implicitDefEqProofs [go_sem,h2])
 ·have hil:i=l.length:=by omega
  subst hil
  simp -implicitDefEqProofs [go_sem,aS]
theorem jt {v:List HQ} (k:Nat) (hk:k<v.length) (he:k=v.length-1):v[k]=v.getLastD hQ0:=by
 subst he
 rw [List.getLastD_eq_getLast?,List.getLast?_eq_getElem?,List.getElem?_eq_getElem (by omega)]; rfl
def cB (v:List HQ):List Rat:=v.map fun h=>mX h.P (v.headD hQ0).P (v.getLastD hQ0).P
theorem cM (v:List HQ):(cB v).length=v.length:=by simp [cB]
theorem BL {v:List HQ} {tol:Rat} (h:v≠[]):nc (cB v) v.length≤tol*tol↔cY v tol:=by
 have h1:cB v≠[]:=by simp [cB,h]
 rw [←cM v,D9 h1]
 unfold cB cY
 simp
theorem BM (l:List HR) (hz:∀h∈l,h.In 1024) (hG:bX (l.map HR.val)):ab Tryz.prog 302 [hL l] (.tup [rA (nc (cB (l.map HR.val)) l.length),.int .i64 0]):=by
 rw [eV]
 have hg:=fK l (by have:=hG.2.2; simp at this; omega) (fun h hh=>(hz h hh).w.sm.ok)
 rw [decide_eq_true hG] at hg
 have h2:=hG.2.1; have h4:=hG.2.2
 rw [List.length_map] at h2 h4
 obtain ⟨v,hv⟩:∃v,v=l.map HR.val:=⟨_,rfl⟩
 have hvl:v.length=l.length:=by rw [hv,List.length_map]
 obtain ⟨PV,hPV⟩:∃PV,PV=(v.map HQ.P).map pA:=⟨_,rfl⟩
 have hPl:PV.length=l.length:=by rw [hPV]; simp [hvl]
 have hPr:∀i,roL (PV.take i):=fun i=>bB (by rw [hPV]; exact c8 _)
 obtain ⟨FV,hFV⟩:∃FV,FV=(cB v).map rA:=⟨_,rfl⟩
 have hFl:FV.length=l.length:=by rw [hFV]; simp [cM,hvl]
 have hFr:∀i,roL (FV.take i):=fun i=>bB (by rw [hFV]; exact oW _)
 have hsv:∀h∈v,h.P.sz≤2048:=fun h hh=>by
  rw [hv] at hh
  obtain ⟨x,hx,rfl⟩:=List.mem_map.1 hh
  have:=(hz x hx).sz
  have:=x.val.sz_P
  omega
 have hgr:=pN (cB v) (by rw [cM]; omega) (by rw [cM]; omega) (fun x hx=>by
  unfold cB at hx
  obtain ⟨h,hh,rfl⟩:=List.mem_map.1 hx
  have m1:v.headD hQ0∈v:=dR (by omega)
  have m2:v.getLastD hQ0∈v:=dj (by omega)
  have:=sZ (hsv h hh) (hsv _ m1) (hsv _ m2)
  omega)
 rw [cM,hvl,←hFV,eV] at hgr
 rw [←hv]
 have hpt:∀i (h:i<l.length),ab Tryz.prog 262 [.agg (l[i]).cs] (.tup [.agg (pC (v[i]'(by omega)).P),.int .i64 0]):=fun i h=>by
  have hw:(l[i]).w.val≠0:=by
   have:=hG.1 (l[i]).val (List.mem_map.2 ⟨_,List.getElem_mem _,rfl⟩)
   intro hh
   change 0<(l[i]).w.val at this
   rw [hh] at this
   exact absurd this (by decide)
  have:=mG l[i] ((hz _ (List.getElem_mem _)).mono) hw
  subst hv
  simpa [HQ.P,HR.val,cE,HR.av_cs] using this
 have hsP:∀i (h:i<l.length),PV.take (i+1)=PV.take i++[.agg (pC (v[i]'(by omega)).P)]:=fun i h=>by
  rw [List.take_succ_eq_append_getElem (by omega)]
  subst hPV; simp [cE]
 have hsF:∀i (h:i<l.length),FV.take (i+1)=FV.take i++[.agg (rC (mX (v[i]'(by omega)).P (v.headD hQ0).P (v.getLastD hQ0).P))]:=fun i h=>by
  rw [List.take_succ_eq_append_getElem (by omega)]
  subst hFV; simp [eV,cB]
 have hts:∀i (h:i<l.length),ab Tryz.prog 59 [.agg (pC (v[i]'(by omega)).P),.agg (pC (v.headD hQ0).P),.agg (pC (v.getLastD hQ0).P)] (.agg (rC (mX (v[i]'(by omega)).P (v.headD hQ0).P (v.getLastD hQ0).P))):=fun i h=>by
  have m1:v.headD hQ0∈v:=dR (by omega)
  have m2:v.getLastD hQ0∈v:=dj (by omega)
  have m0:v[i]'(by omega)∈v:=List.getElem_mem _
  exact E8 _ _ _ (by have:=hsv _ m0; omega) (by have:=hsv _ m1; omega) (by have:=hsv _ m2; omega)
 have hge:∀i (h:i<l.length),bk PV (i:Int) = .agg (pC (v[i]'(by omega)).P):=fun i h=>by
  subst hPV; rw [kN (by simp [hvl,h])]; simp
 have hge0:bk PV 0 = .agg (pC (v.headD hQ0).P):=by
  have:=hge 0 (by omega)
  have e:v[0]'(by omega)=v.headD hQ0:=by
   cases v with
   | nil=>simp at hvl; omega
   | cons a r=>rfl
  rw [e] at this; exact this
 obtain ⟨n1,hn1⟩:∃n1,n1=l.length-1:=⟨_,rfl⟩
 have hgel:bk PV (n1:Int) = .agg (pC (v.getLastD hQ0).P):=by
  have:=hge n1 (by omega)
  rw [jt n1 (by omega) (by omega)] at this; exact this
 refine ab.of_ca (by simp only [ro,roL]; exact ⟨jR _,trivial,trivial⟩) (Cg Tryz.func302 rfl [.cell 2 27,.tmp 3] rfl ?_)
 have hlw:IntKind.i64.wrap (l.length:Int)=l.length:=bO (by omega)
 unfold hL at *
 simp -implicitDefEqProofs [go_sem]
 refine ag hg ?_
 simp -implicitDefEqProofs [go_sem]
 refine aj 2 (α:={i:Nat // i≤l.length}) (fun i=>[(2,.ptr 0 0 0),(4,b9 6 1 (PV.take i.1)),(16,.sl 9 false (l.map HR.av)),(17,.int .i64 l.length),(18,.int .i64 i.1)])
  (fun i=>(0,.live 3 [.agg [.bool false,.sl 0 true [],.sl 0 true []]])::dZ 6 1 (PV.take i.1)) (fun i=>l.length-i.1) ⟨0,Nat.zero_le _⟩ [] (by simp) (fun _ _ _ _ h=>h) (by omega) (by simp -implicitDefEqProofs [go_sem,hlw]) (by simp -implicitDefEqProofs [go_sem]) fun ⟨i,hi⟩=>?_
 have hTl:(PV.take i).length=i:=by rw [List.length_take]; omega
 have hb:PV.take i≠[]→hp 2 (dZ 6 1 (PV.take i)) 1 = .live 6 (PV.take i):=fun h=>by rw [aJ h]; simp [hp,ar]
 simp -implicitDefEqProofs [go_sem]
 refine ⟨fun h5=>?_,fun h5=>?_⟩
 ·have es:=wS i (by omega)
  have e1:=xX h5
  have h1:=hpt i h5
  have hsc:=hsP i h5
  have hr1:=hPr (i+1)
  rw [hsc] at hr1
  generalize (v[i]'(by omega)).P=p at *
  simp -implicitDefEqProofs [go_sem,e1]
  refine ⟨by omega,ag h1 ?_⟩
  simp -implicitDefEqProofs [go_sem]
  refine bf (.inl rfl) (by omega) (by omega) (by simp -implicitDefEqProofs [go_sem]) (by simp [hTl]<;>omega) (by simp -implicitDefEqProofs [go_sem]<;>(intro h; simp [h])) ?_
  simp -implicitDefEqProofs [go_sem,es]
  have hn1:PV.take (i+1)≠[]:=by rw [hsc]; simp
  have r1:=(renL_ro (nm [(1,5)]) _ hr1).symm
  have r2:=cloL_ro (n:=2) _ hr1
  have hl1:(PV.take (i+1)).length=(PV.take i).length+1:=by rw [hsc]; simp
  refine ae ⟨i+1,h5⟩ (by simp only; omega) [(1,5)] (by simp) (by simp only [aJ hn1]; simp [nm]) (by simp) (by simp only [aN hn1,hl1]; simp -implicitDefEqProofs [go_sem,es]) (by simp only [aJ hn1,hsc]; simp -implicitDefEqProofs [go_sem,←r1,r2])
 ·have hii:i=l.length:=by omega
  have hTV:PV.take i=PV:=List.take_of_length_le (by omega)
  have hPn:PV≠[]:=fun h=>by rw [h] at hPl; simp at hPl; omega
  have hPro:roL PV:=by have:=hPr l.length; rwa [←hPl,List.take_length] at this
  rw [hTV] at hb ⊢
  rw [aN hPn,aJ hPn,hPl]
  simp -implicitDefEqProofs [go_sem]
  have eln:IntKind.i64.wrap ((l.length:Int)-1)=(n1:Int):=by rw [bO (by omega)]; omega
  have q1:=(renL_ro (nm []) _ hPro).symm
  have q2:=cloL_ro (n:=3) _ hPro
  have q3:PV.take l.length=PV:=by rw [←hPl]; exact List.take_length
  refine Cc 1 6 PV (by simp -implicitDefEqProofs [go_sem]) 3 (α:={i:Nat // i≤l.length}) (fun i=>[(2,.ptr 0 0 0),(4,.sl 6 false PV),(9,b9 3 2 (FV.take i.1)),(36,.sl 6 false PV),(37,.int .i64 l.length),(38,.int .i64 i.1)])
   (fun i=>(0,.live 3 [.agg [.bool false,.sl 0 true [],.sl 0 true []]])::dZ 3 2 (FV.take i.1)) (fun i=>l.length-i.1) ⟨0,Nat.zero_le _⟩ [] (by simp) (fun _ _ _ _ h=>h) (by omega) (by simp -implicitDefEqProofs [go_sem,hlw,hPl,q3]; and_intros<;>first|assumption|omega) (by simp -implicitDefEqProofs [go_sem]) fun ⟨i,hi⟩=>?_
  have hTl:(FV.take i).length=i:=by rw [List.length_take]; omega
  have hb:FV.take i≠[]→hp 3 (dZ 3 2 (FV.take i)) 2 = .live 3 (FV.take i):=fun h=>by rw [aJ h]; simp [hp,ar]
  simp -implicitDefEqProofs [go_sem,hPl]
  refine ⟨fun h5=>?_,fun h5=>?_⟩
  ·have es:=wS i (by omega)
   have e1:=hge i h5
   have h1:=hts i h5
   have hsc:=hsF i h5
   have hr1:=hFr (i+1)
   rw [hsc] at hr1
   generalize mX (v[i]'(by omega)).P (v.headD hQ0).P (v.getLastD hQ0).P=ts at *
   generalize (v[i]'(by omega)).P=p at *
   generalize (v.headD hQ0).P=p0 at *
   generalize (v.getLastD hQ0).P=pl at *
   have hl0:0<l.length:=by omega
   simp -implicitDefEqProofs [go_sem,e1,hge0,hgel,eln,hPl,hPn]
   refine ⟨h5,hl0,by omega,aa h1 ?_⟩
   simp -implicitDefEqProofs [go_sem]
   refine bf (.inl rfl) (by omega) (by omega) (by simp -implicitDefEqProofs [go_sem]) (by simp [hTl]<;>omega) (by simp -implicitDefEqProofs [go_sem]<;>(intro h; simp [h])) ?_
   simp -implicitDefEqProofs [go_sem,es]
   have hn1:FV.take (i+1)≠[]:=by rw [hsc]; simp
   have r1:=(renL_ro (nm [(2,17)]) _ hr1).symm
   have r2:=cloL_ro (n:=3) _ hr1
   have r3:=(renL_ro (nm [(2,17)]) _ hPro).symm
   have hl1:(FV.take (i+1)).length=(FV.take i).length+1:=by rw [hsc]; simp
   refine ae ⟨i+1,h5⟩ (by simp only; omega) [(2,17)] (by simp) (by simp only [aJ hn1]; simp [nm]) (by simp) (by simp only [aN hn1,hl1]; simp -implicitDefEqProofs [go_sem,es,←r3,q2]) (by simp only [aJ hn1,hsc]; simp -implicitDefEqProofs [go_sem,←r1,r2])
  ·have hii:i=l.length:=by omega
   have hTV:FV.take i=FV:=List.take_of_length_le (by omega)
   have hFn:FV≠[]:=fun h=>by rw [h] at hFl; simp at hFl; omega
   have hFro:roL FV:=by have:=hFr l.length; rwa [←hFl,List.take_length] at this
   have hTV':FV.take l.length=FV:=by rw [←hFl]; exact List.take_length
   rw [hTV] at hb ⊢
   rw [aN hFn,aJ hFn,hFl]
   simp -implicitDefEqProofs [go_sem]
   refine bT [2] _ hgr (by simp -implicitDefEqProofs [go_sem,hTV']) (by simp -implicitDefEqProofs [go_sem,hFro]) (by simp -implicitDefEqProofs [go_sem,hFl]) (by simp -implicitDefEqProofs [go_sem]) ?_
   simp -implicitDefEqProofs [go_sem,aS,jR]
   exact Wk.refl _
theorem BG (l:List HR) (tol:RQ) (hz:∀h∈l,h.In 1024) (ht:tol.In 1024) (hG:bX (l.map HR.val)) (h0:0<tol.val):ab Tryz.prog 263 [hL l,tol.av] (.bool (decide (cY (l.map HR.val) tol.val))):=by
 have hg:=BM l hz hG
 have hs:=dO tol ht.sm.ok
 have hm:=eK tol tol ht.sm ht.sm
 have zt:=ht.sz
 have zm:=ce tol.val tol.val
 have hne:l.map HR.val≠[]:=fun h=>by have:=hG.2.1; rw [h] at this; simp at this
 have hgs:sz (nc (cB (l.map HR.val)) l.length)≤1048576:=by
  have hm2:cB (l.map HR.val)≠[]:=by unfold cB; simpa using hne
  have hmem:=rR hm2 l.length (by rw [cM,List.length_map]; exact Nat.le_refl _)
  unfold cB at hmem
  obtain ⟨h,hh,e⟩:=List.mem_map.1 hmem
  have hsv:∀h∈l.map HR.val,h.P.sz≤2048:=fun h hh=>by
   obtain ⟨x,hx,rfl⟩:=List.mem_map.1 hh
   have:=(hz x hx).sz
   have:=x.val.sz_P
   omega
  have hp:0<(l.map HR.val).length:=by have:=hG.2.1; omega
  have:=sZ (hsv h hh) (hsv _ (dR hp)) (hsv _ (dj hp))
  change sz (nc (cB (l.map HR.val)) l.length)≤_
  unfold cB
  rw [←e]
  omega
 have hc:=C8 (nc (cB (l.map HR.val)) l.length) (tol.val*tol.val) (by omega) (by omega)
 have hfl:cY (l.map HR.val) tol.val↔nc (cB (l.map HR.val)) l.length≤tol.val*tol.val:=by
  rw [←BL hne,List.length_map]
 have hdec:decide (cY (l.map HR.val) tol.val)=decide (nc (cB (l.map HR.val)) l.length≤tol.val*tol.val):=by simp only [hfl]
 rw [hdec]
 generalize nc (cB (l.map HR.val)) l.length=g at *
 obtain ⟨ct,hct,t1,t2,t3,t4⟩:∃ct,tol.av = .agg ct∧ct.length=3∧ct.take 3=ct∧ct.drop 3=[]∧roL ct:=⟨_,rfl,rfl,rfl,rfl,o_ tol⟩
 have hs0:0≤cP tol.val:=nE.2 (by grind)
 have hs0':¬cP tol.val<0:=by omega
 rw [hct] at hs hm ⊢
 simp only [eV] at hg hm hc
 refine Pg Tryz.func263 rfl [.tmp 4] rfl (by simp -implicitDefEqProofs [go_sem]) ?_
 unfold hL at *
 simp -implicitDefEqProofs [go_sem,t1,t2]
 refine ag hg ?_
 simp -implicitDefEqProofs [go_sem,t1,t2]
 refine aC _ hs (by simp [go_sem,t4]) ?_
 simp -implicitDefEqProofs [go_sem,hs0,hs0',t1,t2]
 refine aC _ hm (by simp [go_sem,t4]) ?_
 simp -implicitDefEqProofs [go_sem]
 refine aa hc ?_
 by_cases hx:g≤tol.val*tol.val
 ·have:=kE.2 hx
  simp -implicitDefEqProofs [go_sem,this,hx]
 ·have:¬bW g (tol.val*tol.val)≤0:=fun hh=>hx (kE.1 hh)
  simp -implicitDefEqProofs [go_sem,this,hx]
def pv (x:List HR×Nat):AV := .agg [hL x.1,.int .i64 x.2]
theorem Dm (x:List HR×Nat):ro (pv x):=by unfold pv; simp only [ro,roL]; exact ⟨Dl _,trivial,trivial⟩
@[go_sem] theorem xd (l:List (List HR×Nat)):roL (l.map pv):=bC Dm
theorem nt (tol:Rat):∀(k:Nat) (v:List HQ),kK tol k v+1≤2 ^ (k+1)
 | 0,v=>by simp [kK]
 | k+1,v=>by
  have h1:=nt tol k (aW v.length v)
  have h2:=nt tol k (aX v.length v)
  have:=Nat.pow_pos (n:=k+1) (show 0<2 by omega)
  rw [Nat.pow_succ]
  unfold kK
  split<;>omega
def sp (tol:Rat) (L:List (List HR×Nat)):List PQ:=(L.reverse.flatMap fun x=>dq tol (14-x.2) (x.1.map HR.val))
def sd (tol:Rat):List (List HR×Nat)→Nat
 | []=>0
 | x::L=>max (if cV tol (14-x.2) (x.1.map HR.val)=0 then 0 else x.2+cV tol (14-x.2) (x.1.map HR.val)) (sd tol L)
def sn (tol:Rat):List (List HR×Nat)→Nat
 | []=>0
 | x::L=>kK tol (14-x.2) (x.1.map HR.val)+sn tol L
theorem fl (tol:Rat) (L M:List (List HR×Nat)):sn tol (L++M)=sn tol L+sn tol M:=by
 induction L with
 | nil=>simp [sn]
 | cons a L ih=>simp only [List.cons_append,sn,ih]; omega
theorem xh (tol:Rat) (L M:List (List HR×Nat)):sd tol (L++M)=max (sd tol L) (sd tol M):=by
 induction L with
 | nil=>simp [sd]
 | cons a L ih=>simp only [List.cons_append,sd,ih]; omega
theorem mq (tol:Rat) (L M:List (List HR×Nat)):sp tol (L++M)=sp tol M++sp tol L:=by simp [sp]
theorem Dw (tol:Rat) (L:List (List HR×Nat)):L.length≤sn tol L:=by
 induction L with
 | nil=>simp
 | cons a L ih=>have:=ol tol (14-a.2) (a.1.map HR.val); simp only [List.length_cons,sn]; omega
def Wo (tol:Rat) (x:List HR×Nat):Prop:=x.2≤14∧Tr tol 51 (14-x.2) (x.1.map HR.val)∧∀h∈x.1,h.In 51
theorem yO {tol:Rat} {x:List HR×Nat} (h:Wo tol x) (hf:cY (x.1.map HR.val) tol):dq tol (14-x.2) (x.1.map HR.val)=[((x.1.map HR.val).getLastD hQ0).P]∧cV tol (14-x.2) (x.1.map HR.val)=0∧kK tol (14-x.2) (x.1.map HR.val)=1:=by
 cases 14-x.2 with
 | zero=>exact ⟨rfl,rfl,rfl⟩
 | succ k=>simp [dq,cV,kK,hf]
theorem DG {tol:Rat} {x:List HR×Nat} (h:Wo tol x) (hf:¬cY (x.1.map HR.val) tol) :
 let v:=x.1.map HR.val
 let a:List HR×Nat:=((aW v.length v).map hc,x.2+1)
 let b:List HR×Nat:=((aX v.length v).map hc,x.2+1)
 Wo tol a∧Wo tol b∧sp tol [x]=sp tol [b,a]∧sd tol [x]=max (x.2+1) (sd tol [b,a])∧sn tol [x]=1+sn tol [b,a]:=by
 intro v a b
 obtain ⟨h1,h2,h3⟩:=h
 have hlt:x.2<14:=by
  rcases Nat.lt_or_ge x.2 14 with h|h
  ·exact h
  ·have e:14-x.2=0:=by omega
   rw [e] at h2
   exact absurd h2.2 hf
 have e:14-x.2=(14-(x.2+1))+1:=by omega
 rw [e] at h2
 obtain ⟨t1,t2⟩:=h2.2 hf
 have ca:a.1.map HR.val=aW v.length v:=bU _
 have cb:b.1.map HR.val=aX v.length v:=bU _
 refine ⟨⟨by simp only [a]; omega,by rw [ca]; exact t1,fun h hh=>?_⟩,⟨by simp only [b]; omega,by rw [cb]; exact t2,fun h hh=>?_⟩,?_,?_,?_⟩
 ·simp only [a] at hh
  obtain ⟨y,hy,rfl⟩:=List.mem_map.1 hh
  exact ox (t1.good.2 y hy)
 ·simp only [b] at hh
  obtain ⟨y,hy,rfl⟩:=List.mem_map.1 hh
  exact ox (t2.good.2 y hy)
 ·simp only [sp,List.reverse_cons,List.reverse_nil,List.nil_append,List.flatMap_cons,List.flatMap_nil,List.append_nil,List.singleton_append,List.cons_append]
  rw [ca,cb,e]
  simp only [a,b]
  conv=>lhs; unfold dq
  rw [if_neg hf]
 ·simp only [sd]
  rw [ca,cb,e]
  simp only [a,b]
  have hfd:cV tol (14-(x.2+1)+1) (x.1.map HR.val)=1+max (cV tol (14-(x.2+1)) (aW v.length v)) (cV tol (14-(x.2+1)) (aX v.length v)):=by
   conv=>lhs; unfold cV
   rw [if_neg hf]
  rw [hfd,if_neg (by omega)]
  generalize cV tol (14-(x.2+1)) (aW v.length v)=p
  generalize cV tol (14-(x.2+1)) (aX v.length v)=q
  split<;>split<;>omega
 ·simp only [sn]
  rw [ca,cb,e]
  simp only [a,b]
  have hfn:kK tol (14-(x.2+1)+1) (x.1.map HR.val)=1+(kK tol (14-(x.2+1)) (aW v.length v)+kK tol (14-(x.2+1)) (aX v.length v)):=by
   conv=>lhs; unfold kK
   rw [if_neg hf]
  rw [hfn]
  omega
structure Ws (tol:Rat) (S:List PQ) (D:Nat) (L:List (List HR×Nat)) (J:List AV) (o:List PQ) (dp:Nat):Prop where
 wo:∀x∈L,Wo tol x
 out:o++sp tol L=S
 deep:max dp (sd tol L)=D
 num:sn tol L≤32768
 one:1≤o.length
 few:S.length≤16385
 ro:roL J
theorem vY (l:List HR) (tol:RQ) (hz:∀h∈l,h.In 51) (ht:tol.In 1024) (h0:0<tol.val) (hT:Tr tol.val 51 14 (l.map HR.val)) :
 ab Tryz.prog 213 [hL l,tol.av] (.tup [pL (((l.map HR.val).headD hQ0).P::dq tol.val 14 (l.map HR.val)),.int .i64 (cV tol.val 14 (l.map HR.val)),.int .i64 0]):=by
 have hG:=hT.good.1
 have h2:=hG.2.1; have h4:=hG.2.2
 rw [List.length_map] at h2 h4
 have hg:=fK l (by omega) (fun h hh=>(hz h hh).w.sm.ok)
 rw [decide_eq_true hG] at hg
 have hs:=dO tol ht.sm.ok
 have hs0:¬cP tol.val≤0:=fun hh=>by have:=iC.1 hh; grind
 have hwp:∀(x:List HR) (i:Nat) (hi:i<x.length),(∀h∈x,h.In 51)→bX (x.map HR.val)→ab Tryz.prog 262 [.agg (x[i]).cs] (.tup [.agg (pC ((x.map HR.val)[i]'(by simpa using hi)).P),.int .i64 0]):=fun x i hi hx hxG=>by
  have hw:(x[i]).w.val≠0:=by
   have:=hxG.1 (x[i]).val (List.mem_map.2 ⟨_,List.getElem_mem _,rfl⟩)
   intro hh
   change 0<(x[i]).w.val at this
   rw [hh] at this
   exact absurd this (by decide)
  have:=mG x[i] ((hx _ (List.getElem_mem _)).mono) hw
  simpa [HQ.P,HR.val,cE,HR.av_cs] using this
 have hp0:=hwp l 0 (by omega) hz hG
 have ehd:(l.map HR.val)[0]'(by simp; omega)=(l.map HR.val).headD hQ0:=by
  cases l with
  | nil=>simp at h2
  | cons a r=>rfl
 rw [ehd] at hp0
 have hge0:=BO (l:=l) (by omega)
 have his:=fun (x:List HR) (hx:∀h∈x,h.In 51) (hxG:bX (x.map HR.val))=>BG x tol (fun h hh=>(hx h hh).mono) ht hxG h0
 obtain ⟨S,hS⟩:∃S,S=((l.map HR.val).headD hQ0).P::dq tol.val 14 (l.map HR.val):=⟨_,rfl⟩
 obtain ⟨D,hD⟩:∃D,D=cV tol.val 14 (l.map HR.val):=⟨_,rfl⟩
 have hw0:Ws tol.val S D [(l,0)] [] [((l.map HR.val).headD hQ0).P] 0:=by
  refine ⟨fun x hx=>?_,?_,?_,?_,by simp,?_,trivial⟩
  ·simp at hx; subst hx; exact ⟨by simp,hT,hz⟩
  ·rw [hS]; simp [sp]
  ·rw [hD]; simp only [sd,Nat.sub_zero]; split<;>omega
  ·have:=nt tol.val 14 (l.map HR.val); simp [sn]; omega
  ·have:=gN tol.val 14 (l.map HR.val); rw [hS]; simp; omega
 rw [←hS,←hD]
 generalize ((l.map HR.val).headD hQ0).P=P0 at *
 clear hS hD ehd
 obtain ⟨ct,hct,t1,t2,t3,t4⟩:∃ct,tol.av = .agg ct∧ct.length=3∧ct.take 3=ct∧ct.drop 3=[]∧roL ct:=⟨_,rfl,rfl,rfl,rfl,o_ tol⟩
 rw [hct] at hs ⊢
 simp only [hct] at his
 have hgoal:pL S = .sl 6 false (S.map pA):=rfl
 refine ab.of_ca (by simp only [ro,roL]; exact ⟨li _,trivial,trivial,trivial⟩) (Cg Tryz.func213 rfl [.tmp 4,.tmp 5,.tmp 6] rfl ?_)
 have hro:=Dl l
 have x1:=(renL_ro (nm []) _ t4).symm
 have x2:=cloL_ro (n:=4) _ t4
 unfold hL at hg hro ⊢
 simp -implicitDefEqProofs [go_sem,t1,t2]
 refine ag hg ?_
 simp -implicitDefEqProofs [go_sem,t1,t2]
 refine ai _ hs (by simp [go_sem,t4]) ?_
 simp -implicitDefEqProofs [go_sem,hs0,hge0]
 refine ⟨by omega,ag hp0 ?_⟩
 simp -implicitDefEqProofs [go_sem]
 refine aj 4 (α:={s:List (List HR×Nat)×List AV×List PQ×Nat // Ws tol.val S D s.1 s.2.1 s.2.2.1 s.2.2.2}) (fun s=>[(3,.ptr 0 0 0),(9,.own 6 2 0 s.1.2.2.1.length),(10,.int .i64 s.1.2.2.2),(11,.own 2 3 0 s.1.1.length)])
  (fun s=>[(0,.live 3 [.agg ct]),(2,.live 6 (s.1.2.2.1.map pA)),(3,.live 2 (s.1.1.map pv++s.1.2.1))]) (fun s=>sn tol.val s.1.1) ⟨([(l,0)],[],[P0],0),hw0⟩ [] (by simp) (by simp [nm]) (by omega) (by simp -implicitDefEqProofs [go_sem]) (by simp -implicitDefEqProofs [go_sem,pv,hL,cE]; exact ⟨x1,x2⟩) fun ⟨⟨L,J,o,dp⟩,hw⟩=>?_
 simp only at hw ⊢
 obtain ⟨w1,w2,w3,w4,w5,w6,w7⟩:=hw
 have hol:o.length≤16385:=by have:=congrArg List.length w2; simp only [List.length_append] at this; omega
 have hor:roL (o.map pA):=c8 _
 have hLn:=Dw tol.val L
 have hcs:L=[]∨∃L' x,L=L'++[x]:=by
  rcases List.eq_nil_or_concat L with h|⟨L',x,h⟩
  ·exact .inl h
  ·exact .inr ⟨L',x,by rw [h,List.concat_eq_append]⟩
 rcases hcs with rfl|⟨L',x,rfl⟩
 ·have eS:o=S:=by simpa [sp] using w2
  have eD:dp=D:=by simpa [sd] using w3
  have et:(o.map pA).take o.length=o.map pA:=List.take_of_length_le (by simp)
  subst eS eD
  simp -implicitDefEqProofs [go_sem,et,pL]
  exact Wk.refl _
 ·obtain ⟨l',dx⟩:=x
  obtain ⟨v1,v2,v3⟩:=w1 (l',dx) (by simp)
  have hfl:=yO (w1 (l',dx) (by simp))
  have hct':=DG (w1 (l',dx) (by simp))
  simp only at v1 v2 v3 hfl hct'
  have hG':=v2.good.1
  have hi':=his l' v3 hG'
  have hcp:=Bs l' (fun h hh=>(v3 h hh).mono) hG'
  have g2:=hG'.2.1; have g4:=hG'.2.2
  rw [List.length_map] at g2 g4
  obtain ⟨n2,hn2⟩:∃n2,n2=l'.length-1:=⟨_,rfl⟩
  have hpl:=hwp l' n2 (by omega) v3 hG'
  rw [jt n2 (by simp; omega) (by simp; omega)] at hpl
  have hgl:=xX (l:=l') (i:=n2) (by omega)
  have e2:IntKind.i64.wrap ((l'.length:Int)-1)=(n2:Int):=by rw [bO (by omega)]; omega
  have eL:IntKind.i64.wrap (L'.length:Int)=L'.length:=by
   simp only [List.length_append,List.length_singleton] at hLn
   exact bO (by omega)
  obtain ⟨M,hM⟩:∃M,M=(L'++[(l',dx)]).map pv++J:=⟨_,rfl⟩
  have hMl:L'.length<M.length:=by rw [hM]; simp
  have hMx:M[L'.length]'hMl=pv (l',dx):=by
   subst hM; simp
  have hMt:M.take L'.length=L'.map pv:=by rw [hM]; simp
  rw [←hM]
  have hro':=Dl l'
  unfold pv hL at hMx
  have hqL:∀w:List HQ,qL w = .sl 9 false (w.map hA):=fun w=>rfl
  rw [hqL,hqL] at hcp
  have hcA:∀w:List HQ,w.map hA=(w.map hc).map HR.av:=fun w=>by rw [List.map_map]; rfl
  rw [hcA,hcA] at hcp
  unfold hL at hi' hcp hro'
  simp only at hMx
  have hpr:roL (L'.map pv):=xd _
  simp -implicitDefEqProofs [go_sem,eL,hMx,hMl,t1,t2]
  refine ⟨by omega,by omega,ai _ hi' (by simp [go_sem,t4]) ?_⟩
  by_cases hf:cY (l'.map HR.val) tol.val
  ·obtain ⟨f1,f2,f3⟩:=hfl hf
   clear hct' hcp
   have n1:¬1048576≤(o.length:Int):=by omega
   simp -implicitDefEqProofs [go_sem,hf,n1,e2,hgl]
   refine ⟨by omega,ag hpl ?_⟩
   have hw':Ws tol.val S D L' (pv (l',dx)::J) (o++[((l'.map HR.val).getLastD hQ0).P]) dp:=by
    refine ⟨fun x hx=>w1 x (by simp [hx]),?_,?_,?_,by simp,w6,?_⟩
    ·rw [←w2,mq]
     have:sp tol.val [(l',dx)]=[((l'.map HR.val).getLastD hQ0).P]:=by simp [sp,f1]
     rw [this,List.append_assoc]
    ·rw [←w3,xh]
     have:sd tol.val [(l',dx)]=0:=by simp [sd,f2]
     rw [this]; simp
    ·have:=fl tol.val L' [(l',dx)]; omega
    ·simp only [roL]; exact ⟨Dm _,w7⟩
   have hn:sn tol.val L'<sn tol.val (L'++[(l',dx)]):=by
    rw [fl]
    have:=ol tol.val (14-dx) (l'.map HR.val)
    simp only [sn]; omega
   have hMe:M=L'.map pv++pv (l',dx)::J:=by rw [hM]; simp
   have hMr:roL M:=by rw [hMe]; exact aB.2 ⟨xd _,by simp only [roL]; exact ⟨Dm _,w7⟩⟩
   generalize ((l'.map HR.val).getLastD hQ0).P=p at *
   have hor':roL ((o++[p]).map pA):=c8 _
   have heo:(o++[p]).map pA=o.map pA++[.agg (pC p)]:=by simp [cE]
   have het:(o.map pA).take o.length=o.map pA:=List.take_of_length_le (by simp)
   rw [heo] at hor'
   have z1:=(renL_ro (nm [(2,7)]) _ hor').symm
   have z2:=cloL_ro (n:=4) _ hor'
   have z3:=(renL_ro (nm [(2,7)]) _ hMr).symm
   have z4:=cloL_ro (n:=4) _ hMr
   have z5:=(renL_ro (nm [(2,7)]) _ t4).symm
   simp -implicitDefEqProofs [go_sem,het]
   refine ⟨by omega,?_⟩
   refine ae ⟨(L',pv (l',dx)::J,o++[p],dp),hw'⟩ hn [(2,7)] (by simp) (by simp [nm]) (by simp) (by simp -implicitDefEqProofs [go_sem]) (by simp only [heo,←hMe]; simp -implicitDefEqProofs [go_sem,←z1,z2,←z3,z4,←z5,x2])
  ·obtain ⟨c1,c2,c3,c4,c5⟩:=hct' hf
   clear hfl
   have n1:¬64≤(dx:Int):=by omega
   have edx:=wS dx (by omega)
   simp -implicitDefEqProofs [go_sem,hf,n1]
   rw [List.length_map] at c1 c2 c3 c4 c5
   have hw':Ws tol.val S D (L'++[((aX l'.length (l'.map HR.val)).map hc,dx+1),((aW l'.length (l'.map HR.val)).map hc,dx+1)]) [] o (max dp (dx+1)):=by
    refine ⟨fun x hx=>?_,?_,?_,?_,w5,w6,trivial⟩
    ·simp only [List.mem_append,List.mem_cons,List.not_mem_nil,or_false] at hx
     rcases hx with hx|rfl|rfl
     ·exact w1 x (by simp [hx])
     ·exact c2
     ·exact c1
    ·rw [←w2,mq,mq,c3]
    ·rw [←w3,xh,xh,c4]; omega
    ·have h1:=fl tol.val L' [(l',dx)]
     have h2:=fl tol.val L' [((aX l'.length (l'.map HR.val)).map hc,dx+1),((aW l'.length (l'.map HR.val)).map hc,dx+1)]
     omega
   have hn:sn tol.val (L'++[((aX l'.length (l'.map HR.val)).map hc,dx+1),((aW l'.length (l'.map HR.val)).map hc,dx+1)])<sn tol.val (L'++[(l',dx)]):=by
    rw [fl,fl,c5]; omega
   clear c1 c2 c3 c4 c5
   generalize (aW l'.length (l'.map HR.val)).map hc=A at *
   generalize (aX l'.length (l'.map HR.val)).map hc=B at *
   have hLb:L'.length≤32768:=by simp only [List.length_append,List.length_singleton] at hLn; omega
   have hMn:(L'++[(B,dx+1),(A,dx+1)]).map pv=L'.map pv++[.agg [.sl 9 false (B.map HR.av),.int .i64 (dx+1:Nat)],.agg [.sl 9 false (A.map HR.av),.int .i64 (dx+1:Nat)]]:=by simp [pv,hL]
   have hMr:roL ((L'++[(B,dx+1),(A,dx+1)]).map pv):=xd _
   rw [hMn] at hMr
   have z1:=(renL_ro (nm [(3,6)]) _ hor).symm
   have z2:=cloL_ro (n:=4) _ hor
   have z3:=(renL_ro (nm [(3,6)]) _ hMr).symm
   have z4:=cloL_ro (n:=4) _ hMr
   have z5:=(renL_ro (nm [(3,6)]) _ t4).symm
   refine ag hcp ?_
   simp -implicitDefEqProofs [go_sem,edx,hMt]
   refine ⟨by omega,by omega,?_⟩
   refine ae ⟨(L'++[(B,dx+1),(A,dx+1)],[],o,max dp (dx+1)),hw'⟩ hn [(3,6)] (by simp) (by simp [nm]) (by simp) (by simp -implicitDefEqProofs [go_sem]; split<;>omega) (by simp only [hMn,List.append_nil]; simp -implicitDefEqProofs [go_sem,←z1,z2,←z3,z4,←z5,x2]; exact ⟨(renL_ro _ _ hpr).symm,cloL_ro _ hpr⟩)
def gC (h:HQ):List AV:=[.bool (decide (h.x.num<0)),qA h.x.num.natAbs,qA h.x.den,.bool (decide (h.y.num<0)),qA h.y.num.natAbs,qA h.y.den,.bool (decide (h.w.num<0)),qA h.w.num.natAbs,qA h.w.den]
theorem xW (h:HQ):gA h = .agg (gC h):=rfl
@[go_sem] theorem Nm (h:HQ):(gC h).length=9:=rfl
@[go_sem] theorem LY (h:HQ):(gC h).take 9=gC h:=rfl
@[go_sem] theorem LX (h:HQ):(gC h).drop 9=[]:=rfl
@[go_sem] theorem O2 (h:HQ):(gC h).take 3=fC h.x:=rfl
@[go_sem] theorem O3 (h:HQ):((gC h).drop 3).take 3=fC h.y:=rfl
@[go_sem] theorem O1 (h:HQ):((gC h).drop 6).take 3=fC h.w:=rfl
@[go_sem] theorem N7 (h:HQ):(gC h).drop 6=fC h.w:=rfl
@[go_sem] theorem yE (h:HQ):roL (gC h):=by have:=qT h; rw [xW] at this; simpa only [ro] using this
@[go_sem] theorem M_ (n:Nat) (h:HQ):cloL n (gC h):=cloL_ro _ (yE h)
@[go_sem] theorem NM (rn:Nat→Nat) (h:HQ):renL rn (gC h)=gC h:=renL_ro rn _ (yE h)
@[go_sem] theorem LT (f:Nat→BS) (h:HQ):fitsL f (gC h):=fitsL_ro f _ (yE h)
@[go_sem] theorem MM (f:Nat→BS) (h:HQ):viewL f (gC h)=gC h:=viewL_ro f _ (yE h)
def hmx (l:List Rat) (i:Nat):Rat:=(l.take i).foldl (fun m x=>if m<x then x else m) 0
def vq (v:List HQ) (tol:Rat):List PQ×Nat×Int :=
 if ¬bX v then ([],0,11) else if tol≤0 then ([],0,1) else ((v.headD hQ0).P::dq tol 14 v,cV tol 14 v,0)
def JX (r:List PQ×Nat×Int):AV := .tup [pL r.1,.int .i64 r.2.1,.int .i64 r.2.2]
theorem yN (a b:AV):Wk (.tup [.sl 0 true [],a,b]) (.tup [pL [],a,b]):=Wk.tup (.cons (Wk.nil 0 6 true) (xC.refl _))
theorem zI (l:List HR) (tol:RQ) (hl:l.length<1099511627776) (hz:∀h∈l,h.In 51) (ht:tol.In 1024) (hT:bX (l.map HR.val)→0<tol.val→Tr tol.val 51 14 (l.map HR.val)) :
 ab Tryz.prog 213 [hL l,tol.av] (JX (vq (l.map HR.val) tol.val)):=by
 unfold vq
 by_cases hG:bX (l.map HR.val)
 ·rw [if_neg (not_not_intro hG)]
  by_cases h0:tol.val≤0
  ·rw [if_pos h0]
   have hg:=fK l hl (fun h hh=>(hz h hh).w.sm.ok)
   rw [decide_eq_true hG] at hg
   have hs:=dO tol ht.sm.ok
   have hs0:cP tol.val≤0:=iC.2 h0
   refine ab.weaken (r := .tup [.sl 0 true [],.int .i64 0,.int .i64 1]) ?_ (yN _ _)
   refine Pg Tryz.func213 rfl [.tmp 4,.tmp 5,.tmp 6] rfl (by simp -implicitDefEqProofs [go_sem]) ?_
   obtain ⟨ct,hct,t1,t2,t3,t4⟩:∃ct,tol.av = .agg ct∧ct.length=3∧ct.take 3=ct∧ct.drop 3=[]∧roL ct:=⟨_,rfl,rfl,rfl,rfl,o_ tol⟩
   rw [hct] at hs ⊢
   unfold hL at *
   simp -implicitDefEqProofs [go_sem,t1,t2]
   refine ag hg ?_
   simp -implicitDefEqProofs [go_sem,t1,t2]
   refine ai _ hs (by simp [go_sem,t4]) ?_
   simp -implicitDefEqProofs [go_sem,hs0]
  ·rw [if_neg h0]
   exact vY l tol hz ht (by grind) (hT hG (by grind))
 ·rw [if_pos hG]
  have hg:=fK l hl (fun h hh=>(hz h hh).w.sm.ok)
  rw [decide_eq_false hG] at hg
  refine ab.weaken (r := .tup [.sl 0 true [],.int .i64 0,.int .i64 11]) ?_ (yN _ _)
  refine Pg Tryz.func213 rfl [.tmp 4,.tmp 5,.tmp 6] rfl (by simp -implicitDefEqProofs [go_sem]) ?_
  unfold hL at *
  unfold RQ.av
  simp -implicitDefEqProofs [go_sem]
  refine ag hg ?_
  simp -implicitDefEqProofs [go_sem]
theorem tN (l:List HR) (tol:RQ) (hl:l.length<1099511627776) (hz:∀h∈l,h.In 51) (ht:tol.In 1024) (hT:bX (l.map HR.val)→0<tol.val→Tr tol.val 51 14 (l.map HR.val)) :
 ab Tryz.prog 145 [hL l,tol.av] (.tup [pL (vq (l.map HR.val) tol.val).1,.int .i64 (vq (l.map HR.val) tol.val).2.2]):=by
 have h:=zI l tol hl hz ht hT
 refine Pg Tryz.func145 rfl [.tmp 4,.tmp 5] rfl (by simp only [ro,roL]; exact ⟨li _,trivial,trivial⟩) ?_
 generalize vq (l.map HR.val) tol.val=r at *
 unfold hL JX pL RQ.av at *
 simp -implicitDefEqProofs [go_sem]
 refine ag h ?_
 simp -implicitDefEqProofs [go_sem]
def pg (x:List HR×Nat):AV := .agg [gL (x.1.map HR.val),.int .i64 x.2]
theorem yF (x:List HR×Nat):ro (pg x):=by unfold pg; simp only [ro,roL]; exact ⟨qU _,trivial,trivial⟩
@[go_sem] theorem w_ (l:List (List HR×Nat)):roL (l.map pg):=bC yF
theorem ou {tol:Rat} {n:Nat}:∀(k:Nat) (v:List HQ),Tr tol n k v→∀p∈dq tol k v,p.sz≤2*n
 | 0,v,h=>fun p hp=>by
  simp [dq] at hp
  have hg:=h.good
  have hm:v.getLastD hQ0∈v:=dj (by have:=hg.1.2.1; omega)
  have h1:=(v.getLastD hQ0).sz_P
  have h2:=hg.2 _ hm
  rw [List.getLastD_eq_getLast?] at h1 h2
  subst hp
  simp only [Option.getD] at *
  omega
 | k+1,v,h=>fun p hp=>by
  unfold dq at hp
  split at hp
  ·simp only [List.mem_singleton] at hp
   have hg:=h.good
   have hm:v.getLastD hQ0∈v:=dj (by have:=hg.1.2.1; omega)
   have h1:=(v.getLastD hQ0).sz_P
   have h2:=hg.2 _ hm
   subst hp
   omega
  ·rename_i hf
   obtain ⟨t1,t2⟩:=h.2 hf
   rcases List.mem_append.1 hp with hp|hp
   ·exact ou k _ t1 p hp
   ·exact ou k _ t2 p hp
theorem Gy {v:List HQ} {tol:Rat} (hs:∀h∈v,h.sz≤51) (hT:bX v→0<tol→Tr tol 51 14 v):(vq v tol).1.length≤16385∧∀p∈(vq v tol).1,p.sz≤102:=by
 unfold vq
 split
 ·simp
 ·rename_i hG
  have hG:=Classical.not_not.1 hG
  split
  ·simp
  ·rename_i h0
   have hT:=hT hG (by grind)
   have hl:=gN tol 14 v
   refine ⟨by simp only [List.length_cons]; omega,fun p hp=>?_⟩
   rcases List.mem_cons.1 hp with rfl|hp
   ·have hm:v.headD hQ0∈v:=dR (by have:=hG.2.1; omega)
    have h1:=(v.headD hQ0).sz_P
    have h2:=hs _ hm
    omega
   ·exact ou 14 v hT p hp
def PQ.neg (p:PQ):PQ:=⟨-p.x,-p.y⟩
def Gw (n:PQ) (h tol:Rat):Prop:=0<n.dot n∧(h-tol≤0∨(h-tol)*(h-tol)≤n.dot n)
instance (n:PQ) (h tol:Rat):Decidable (Gw n h tol):=inferInstanceAs (Decidable (_∧_))
def MX (x g m:Rat):Prop:=if 0<g then 0≤x∧g*g*m≤x*x else 0≤x∨x*x≤g*g*m
instance (x g m:Rat):Decidable (MX x g m):=by unfold MX; split<;>infer_instance
def HG (u v:PQ) (m:Rat):Prop:=u≠⟨0,0⟩∧v≠⟨0,0⟩∧0<m∧MX (u.dot v) (2 / (m*m)-1) (u.dot u*v.dot v)
instance (u v:PQ) (m:Rat):Decidable (HG u v m):=inferInstanceAs (Decidable (_∧_))
def PR.cs (p:PR):List AV:=[.bool p.x.neg,nA p.x.p,nA p.x.q,.bool p.y.neg,nA p.y.p,nA p.y.q]
theorem PR.av_cs (p:PR):p.av = .agg p.cs:=rfl
theorem PR.ro_cs (p:PR):roL p.cs:=by unfold PR.cs; simp -implicitDefEqProofs [go_sem]
def IY:PR:=⟨A4,A4⟩
theorem Hl {n:Nat}:IY.In n:=⟨wV,wV⟩
theorem E6:IY.val=⟨0,0⟩:=by
 have:A4.val=0:=by unfold RQ.val RQ.num A4; simp [dt,lu,Rat.zero_mkRat]
 unfold PR.val IY; rw [this]
theorem KQ:Wk pZ IY.av:=by
 unfold pZ PR.av IY A4
 exact Wk.agg (.cons (Wk.refl _) (.cons (Wk.nil 0 1 true) (.cons (Wk.nil 0 1 true) (.cons (Wk.refl _) (.cons (Wk.nil 0 1 true) (.cons (Wk.nil 0 1 true) .nil))))))
theorem KS (p:PR) (hp:p.In 17179869184):ab Tryz.prog 97 [p.av,pZ] (pA p.val):=by
 have h:=jz p IY hp Hl
 rw [E6] at h
 have e:p.val.add ⟨0,0⟩=p.val:=PQ.ext (by unfold PQ.add; simp only; grind) (by unfold PQ.add; simp only; grind)
 rw [e] at h
 exact h.args (.cons (Wk.refl _) (.cons KQ .nil))
theorem PQ.sz_neg (p:PQ):p.neg.sz=p.sz:=by
 unfold PQ.neg PQ.sz; simp only [Go.Proofs.YtdnmfaljidjijaaGreat.sz_neg]
theorem Dy (x:Rat):sz x.abs≤sz x:=by
 unfold Rat.abs
 split
 ·exact Nat.le_refl _
 ·rw [sz_neg]; exact Nat.le_refl _
structure SR where
 width:RQ
 miter:RQ
 cap:Int
 join:Int
 tol:RQ
def SR.cs (s:SR):List AV:=[.bool s.width.neg,nA s.width.p,nA s.width.q,.bool s.miter.neg,nA s.miter.p,nA s.miter.q,.int .i64 s.cap,.int .i64 s.join,.bool s.tol.neg,nA s.tol.p,nA s.tol.q]
def SR.av (s:SR):AV := .agg s.cs
theorem SR.ro_cs (s:SR):roL s.cs:=by unfold SR.cs; simp -implicitDefEqProofs [go_sem]
def SR.h (s:SR):Rat:=s.width.val*dW
structure SR.Lm (s:SR):Prop where
 width:s.width.Lm
 miter:s.miter.Lm
 tol:s.tol.Lm
structure CR where
 p:PR
 u:PR
 v:PR
def CR.cs (c:CR):List AV:=c.p.cs++c.u.cs++c.v.cs
def CR.av (c:CR):AV := .agg c.cs
structure CR.Lm (c:CR):Prop where
 p:c.p.Lm
 u:c.u.Lm
 v:c.v.Lm
theorem dot0 (p:PQ):p.dot p=0↔p=⟨0,0⟩:=⟨fun h=>by
 have:=PQ.dot0 h
 exact PQ.ext this.1 this.2,fun h=>by rw [h]; unfold PQ.dot; grind⟩
def NB (s:SR):Prop:=0<s.width.val∧0<s.tol.val∧0≤s.join∧s.join≤2∧(s.join=0→1≤s.miter.val∧s.miter.val≤64)
instance (s:SR):Decidable (NB s):=inferInstanceAs (Decidable (_∧_))
def NA (s:SR):Prop:=0<s.width.val∧0<s.tol.val∧0≤s.cap∧s.cap≤2
instance (s:SR):Decidable (NA s):=inferInstanceAs (Decidable (_∧_))
theorem sub_zero {a b:PQ}:b.sub a=⟨0,0⟩↔a=b:=by
 constructor
 ·intro h
  unfold PQ.sub at h
  rw [PQ.mk.injEq] at h
  exact PQ.ext (by grind) (by grind)
 ·intro h; subst h; exact PQ.ext (by unfold PQ.sub; simp only; grind) (by unfold PQ.sub; simp only; grind)
theorem E9:A4.val=0:=by unfold RQ.val RQ.num A4; simp [dt,lu,Rat.zero_mkRat]
def O4:List AV:=[.bool false,.sl 0 true [],.sl 0 true []]
theorem Li:xC O4 [.bool A4.neg,nA A4.p,nA A4.q] := .cons (Wk.refl _) (.cons (Wk.nil 0 1 true) (.cons (Wk.nil 0 1 true) .nil))
def KE (w t:Rat) (c:Int):Prop:=0<w∧0<t∧0≤c∧c≤2
instance (w t:Rat) (c:Int):Decidable (KE w t c):=inferInstanceAs (Decidable (_∧_))
def ND (w m t:Rat) (join:Int):Prop:=0<w∧0<t∧0≤join∧join≤2∧(join=0→1≤m∧m≤64)
instance (w m t:Rat) (join:Int):Decidable (ND w m t join):=inferInstanceAs (Decidable (_∧_))
def G5 (d o:PQ) (h:Rat):Prop:=0<d.dot o→d.dot o*d.dot o≤h*h*o.dot o
instance (d o:PQ) (h:Rat):Decidable (G5 d o h):=inferInstanceAs (Decidable (_→_))
def NH (d o:PQ) (g:Rat):Prop:=0≤d.dot o∧g*g*o.dot o≤d.dot o*d.dot o
instance (d o:PQ) (g:Rat):Decidable (NH d o g):=inferInstanceAs (Decidable (_∧_))
structure Cvx (l:List PQ):Prop where
 len:3≤l.length
 ne:∀i k (hi:i<l.length) (hk:k<l.length),k≠i→l[i]≠l[k]
 turn:∀i k (hi:i<l.length) (hk:k<l.length),0≤((l[(i+1)%l.length]'(Nat.mod_lt _ (by omega))).sub l[i]).cross (l[k].sub l[i])
 fst:0<((l[1]'(by omega)).sub (l[0]'(by omega))).cross ((l[2]'(by omega)).sub (l[0]'(by omega)))
 lst:0<((l[l.length-1]'(by omega)).sub (l[l.length-2]'(by omega))).cross ((l[0]'(by omega)).sub (l[l.length-2]'(by omega)))
theorem Cvx.pure {l:List PQ} (h:Cvx l) (hl:l.length≤1048576) (hs:∀p∈l,p.sz≤1073741824):ab Tryz.prog 60 [pL l] (.bool true) :=
 tD l h.len hl hs h.ne (fun i k hi hk=>nE.2 (h.turn i k hi hk)) (nF.2 h.fst)
structure MQ where
 a:Rat
 b:Rat
 c:Rat
 d:Rat
 e:Rat
 f:Rat
def MQ.app (m:MQ) (p:PQ):PQ:=⟨m.a*p.x+m.c*p.y+m.e,m.b*p.x+m.d*p.y+m.f⟩
def MQ.det (m:MQ):Rat:=m.a*m.d-m.b*m.c
theorem lI (m:MQ) (p q r:PQ):((m.app q).sub (m.app p)).cross ((m.app r).sub (m.app p))=m.det*(q.sub p).cross (r.sub p):=by
 unfold MQ.app MQ.det PQ.sub PQ.cross; simp only; grind
theorem DR {m:MQ} (hm:m.det≠0) {p q:PQ} (h:m.app p=m.app q):p=q:=by
 unfold MQ.app at h
 rw [PQ.mk.injEq] at h
 obtain ⟨h1,h2⟩:=h
 unfold MQ.det at hm
 refine PQ.ext ?_ ?_
 ·have:(m.a*m.d-m.b*m.c)*(p.x-q.x)=0:=by grind
  rcases Rat.mul_eq_zero.1 this with h|h
  ·exact absurd h hm
  ·grind
 ·have:(m.a*m.d-m.b*m.c)*(p.y-q.y)=0:=by grind
  rcases Rat.mul_eq_zero.1 this with h|h
  ·exact absurd h hm
  ·grind
theorem Cvx.map {l:List PQ} (h:Cvx l) {m:MQ} (hm:0<m.det):Cvx (l.map m.app):=by
 refine ⟨by rw [List.length_map]; exact h.len,fun i k hi hk hne=>?_,fun i k hi hk=>?_,?_,?_⟩
 ·rw [List.length_map] at hi hk
  rw [List.getElem_map,List.getElem_map]
  exact fun e=>h.ne i k hi hk hne (DR (by grind) e)
 ·simp only [List.length_map] at hi hk
  simp only [List.length_map,List.getElem_map]
  rw [lI]
  exact Rat.mul_nonneg (by grind) (h.turn i k hi hk)
 ·simp only [List.getElem_map]
  rw [lI]; exact Rat.mul_pos hm h.fst
 ·simp only [List.length_map,List.getElem_map]
  rw [lI]; exact Rat.mul_pos hm h.lst
structure MR where
 a:RQ
 b:RQ
 c:RQ
 d:RQ
 e:RQ
 f:RQ
def MR.cs (m:MR):List AV:=[.bool m.a.neg,nA m.a.p,nA m.a.q,.bool m.b.neg,nA m.b.p,nA m.b.q,.bool m.c.neg,nA m.c.p,nA m.c.q,.bool m.d.neg,nA m.d.p,nA m.d.q,.bool m.e.neg,nA m.e.p,nA m.e.q,.bool m.f.neg,nA m.f.p,nA m.f.q]
def MR.av (m:MR):AV := .agg m.cs
theorem MR.ro_cs (m:MR):roL m.cs:=by unfold MR.cs; simp -implicitDefEqProofs [go_sem]
def MR.val (m:MR):MQ:=⟨m.a.val,m.b.val,m.c.val,m.d.val,m.e.val,m.f.val⟩
structure MR.In (n:Nat) (m:MR):Prop where
 a:m.a.In n
 b:m.b.In n
 c:m.c.In n
 d:m.d.In n
 e:m.e.In n
 f:m.f.In n
def oJ (m:MQ):MR:=⟨qc m.a,qc m.b,qc m.c,qc m.d,qc m.e,qc m.f⟩
theorem sj (m:MQ):(oJ m).val=m:=by unfold MR.val oJ; simp only [cd]
def MR.x (m:MR):PR:=⟨m.a,m.b⟩
def MR.y (m:MR):PR:=⟨m.c,m.d⟩
def MR.s (m:MR):PR:=⟨m.e,m.f⟩
theorem EL (m:MR):ab Tryz.prog 95 [m.av] m.x.av:=by
 refine Pg Tryz.func95 rfl [.cell 2 72] rfl (jQ _) ?_
 unfold MR.av MR.cs MR.x PR.av
 simp -implicitDefEqProofs [go_sem,aS]
theorem EN (m:MR):ab Tryz.prog 96 [m.av] m.y.av:=by
 refine Pg Tryz.func96 rfl [.cell 2 72] rfl (jQ _) ?_
 unfold MR.av MR.cs MR.y PR.av
 simp -implicitDefEqProofs [go_sem,aS]
theorem EH (m:MR):ab Tryz.prog 99 [m.av] m.s.av:=by
 refine Pg Tryz.func99 rfl [.cell 2 72] rfl (jQ _) ?_
 unfold MR.av MR.cs MR.s PR.av
 simp -implicitDefEqProofs [go_sem,aS]
theorem wF (m:MR) (p:PR) (hm:m.In 4294967296) (hp:p.In 4294967296):ab Tryz.prog 98 [m.av,p.av] (pA ((m.x.val.scale p.val.x).add (m.y.val.scale p.val.y))):=by
 have k1:=EL m
 have k2:=EN m
 have k3:=gg m.x p.x ⟨hm.a.mono,hm.b.mono⟩ hp.x.mono
 have k4:=gg m.y p.y ⟨hm.c.mono,hm.d.mono⟩ hp.y.mono
 have zx:m.x.val.sz≤4294967296:=PR.In.sz ⟨hm.a,hm.b⟩
 have zy:m.y.val.sz≤4294967296:=PR.In.sz ⟨hm.c,hm.d⟩
 have z1:=PQ.sz_scale m.x.val p.x.val
 have z2:=PQ.sz_scale m.y.val p.y.val
 have y1:=hp.x.sz
 have y2:=hp.y.sz
 have k5:=KR (m.x.val.scale p.x.val) (m.y.val.scale p.y.val) (by omega) (by omega)
 change ab _ _ _ (pA ((m.x.val.scale p.val.x).add (m.y.val.scale p.val.y))) at k5
 have mro:=m.ro_cs
 have mlen:m.cs.length=18:=rfl
 have mtk:m.cs.take 18=m.cs:=rfl
 generalize (m.x.val.scale p.val.x).add (m.y.val.scale p.val.y)=r at *
 generalize m.x.val.scale p.x.val=u at *
 generalize m.y.val.scale p.y.val=v at *
 unfold MR.av at *
 generalize m.cs=M at *
 refine Pg Tryz.func98 rfl [.cell 4 72] rfl (ji _) ?_
 unfold PR.av RQ.av MR.x MR.y at *
 simp only [cE] at *
 simp -implicitDefEqProofs [go_sem,mlen,mtk]
 refine aC _ k1 (by simp [go_sem,mro]) ?_
 simp -implicitDefEqProofs [go_sem]
 refine aa k3 ?_
 simp -implicitDefEqProofs [go_sem,mlen,mtk]
 refine aC _ k2 (by simp [go_sem,mro]) ?_
 simp -implicitDefEqProofs [go_sem]
 refine aa k4 ?_
 simp -implicitDefEqProofs [go_sem]
 refine aa k5 ?_
 simp -implicitDefEqProofs [go_sem,aS]
theorem xH (m:MR) (p:PQ):((m.x.val.scale p.x).add (m.y.val.scale p.y)).add m.s.val=m.val.app p:=PQ.ext (by unfold MQ.app MR.val MR.x MR.y MR.s PR.val PQ.scale PQ.add; rfl) (by unfold MQ.app MR.val MR.x MR.y MR.s PR.val PQ.scale PQ.add; rfl)
theorem nL {m:MR} {p:PQ} {n k:Nat} (hm:m.In n) (hn:1≤n) (hp:p.sz≤k):(m.val.app p).sz≤3*n+2*k+2:=by
 have zx:m.x.val.sz≤n:=PR.In.sz ⟨hm.a,hm.b⟩
 have zy:m.y.val.sz≤n:=PR.In.sz ⟨hm.c,hm.d⟩
 have zs:m.s.val.sz≤n:=PR.In.sz ⟨hm.e,hm.f⟩
 have z1:=PQ.sz_scale m.x.val p.x
 have z2:=PQ.sz_scale m.y.val p.y
 have z3:=PQ.sz_add (m.x.val.scale p.x) (m.y.val.scale p.y)
 have z4:=PQ.sz_add ((m.x.val.scale p.x).add (m.y.val.scale p.y)) m.s.val
 have y1:=p.sz_x
 have y2:=p.sz_y
 rw [xH] at z4
 omega
theorem mN (m:MR) (p:PR) (hm:m.In 100000000) (hp:p.In 100000000):ab Tryz.prog 36 [m.av,p.av] (pA (m.val.app p.val)):=by
 have k1:=wF m p (⟨hm.a.mono,hm.b.mono,hm.c.mono,hm.d.mono,hm.e.mono,hm.f.mono⟩) hp.mono
 have k2:=EH m
 have zx:m.x.val.sz≤100000000:=PR.In.sz ⟨hm.a,hm.b⟩
 have zy:m.y.val.sz≤100000000:=PR.In.sz ⟨hm.c,hm.d⟩
 have z1:=PQ.sz_scale m.x.val p.val.x
 have z2:=PQ.sz_scale m.y.val p.val.y
 have z3:=PQ.sz_add (m.x.val.scale p.val.x) (m.y.val.scale p.val.y)
 have y0:=hp.sz
 have y1:=p.val.sz_x
 have y2:=p.val.sz_y
 have k3:=jz (pc ((m.x.val.scale p.val.x).add (m.y.val.scale p.val.y))) m.s (cF (by omega)) ⟨hm.e.mono,hm.f.mono⟩
 rw [bJ,xH] at k3
 change ab _ _ [pA _,_] _ at k3
 have mro:=m.ro_cs
 have mlen:m.cs.length=18:=rfl
 have mtk:m.cs.take 18=m.cs:=rfl
 generalize m.val.app p.val=r at *
 generalize (m.x.val.scale p.val.x).add (m.y.val.scale p.val.y)=u at *
 unfold MR.av at *
 generalize m.cs=M at *
 refine Pg Tryz.func36 rfl [.cell 4 72] rfl (ji _) ?_
 unfold PR.av MR.s at *
 simp only [cE] at *
 simp -implicitDefEqProofs [go_sem,mlen,mtk]
 refine aC _ k1 (by simp [go_sem,mro]) ?_
 simp -implicitDefEqProofs [go_sem,mlen,mtk]
 refine aC _ k2 (by simp [go_sem,mro]) ?_
 simp -implicitDefEqProofs [go_sem]
 refine aa k3 ?_
 simp -implicitDefEqProofs [go_sem,aS]
theorem di (v u:Int) (hv : -9223372036854775808≤v∧v≤9223372036854775807) (hu:1≤u∧u≤65536):ab Tryz.prog 158 [.int .i64 v,.int .i64 u] (rA ((v:Rat) / (u:Rat))):=by
 have k:=eW v u hv (by omega) (by omega)
 have hu1:¬u<1:=by omega
 refine Pg Tryz.func158 rfl [.cell 4 27] rfl (cA _) ?_
 simp only [eV] at *
 simp -implicitDefEqProofs [go_sem,hu1]
 refine ag k ?_
 simp -implicitDefEqProofs [go_sem,aS]
def eo (a:PQ):List PQ→List PQ
 | []=>[]
 | b::l=>if b=a then eo a l else b::eo b l
def aR:List PQ→List PQ
 | []=>[]
 | a::l=>a::eo a l
def fX:Nat→List PQ→List PQ
 | 0,l=>l
 | f+1,l=>if 1<l.length∧l.head?=l.getLast? then fX f l.dropLast else l
def bz (l:List PQ) (closed:Bool):List PQ:=if closed then fX l.length (aR l) else aR l
theorem lM (a:PQ):∀l,(eo a l).length≤l.length
 | []=>Nat.le_refl _
 | b::l=>by
  simp only [eo]
  split
  ·have:=lM a l; simp only [List.length_cons]; omega
  ·have:=lM b l; simp only [List.length_cons]; omega
theorem iS (l:List PQ):(aR l).length≤l.length:=by
 cases l with
 | nil=>exact Nat.le_refl _
 | cons a l=>have:=lM a l; simp only [aR,List.length_cons]; omega
theorem lO (a:PQ):∀l,∀x∈eo a l,x∈l
 | [],x,h=>h
 | b::l,x,h=>by
  simp only [eo] at h
  split at h
  ·exact List.mem_cons_of_mem _ (lO a l x h)
  ·rcases List.mem_cons.1 h with rfl|h
   ·exact List.mem_cons_self
   ·exact List.mem_cons_of_mem _ (lO b l x h)
theorem kG (l:List PQ):∀x∈aR l,x∈l:=by
 cases l with
 | nil=>exact fun x h=>h
 | cons a l =>
  intro x h
  rcases List.mem_cons.1 h with rfl|h
  ·exact List.mem_cons_self
  ·exact List.mem_cons_of_mem _ (lO a l x h)
theorem re:∀f (l:List PQ),(fX f l).length≤l.length
 | 0,l=>Nat.le_refl _
 | f+1,l=>by
  unfold fX
  split
  ·have:=re f l.dropLast
   rw [List.length_dropLast] at this
   omega
  ·exact Nat.le_refl _
theorem mz:∀f (l:List PQ),∀x∈fX f l,x∈l
 | 0,l,x,h=>h
 | f+1,l,x,h=>by
  unfold fX at h
  split at h
  ·exact List.dropLast_subset _ (mz f l.dropLast x h)
  ·exact h
theorem pX (l:List PQ) (closed:Bool):∀x∈bz l closed,x∈l:=by
 intro x h
 unfold bz at h
 split at h
 ·exact kG l x (mz _ _ x h)
 ·exact kG l x h
theorem pW (l:List PQ) (closed:Bool):(bz l closed).length≤l.length:=by
 unfold bz
 split
 ·exact Nat.le_trans (re _ _) (iS l)
 ·exact iS l
structure Sg where
 k:Int
 v:Nat→Int
 w:Int
def fp (k:Int):Nat:=if k=1∨k=2 then 2 else if k=3∨k=5 then 4 else if k=4 then 6 else 0
structure Sg.Good (s:Sg):Prop where
 k1:1≤s.k
 k6:s.k≤6
 v:∀i,i<6 → -2147483648<s.v i∧s.v i<2147483648∧(fp s.k≤i→s.v i=0)
 w:if s.k=5 then 1≤s.w∧s.w≤4096 else s.w=0
def Ap:List Sg→Prop
 | a::b::r=>¬(a.k=6∧b.k=6)∧Ap (b::r)
 | _=>True
def bL (l:List Sg):Prop:=l≠[]∧l.length≤4096∧(∀s∈l.head?,s.k=1)∧(∀s∈l,s.Good)∧Ap l
def HQ.wt (p:PQ) (w:Rat):HQ:=⟨p.x*w,p.y*w,w⟩
def au (x y:Int):PQ:=⟨(x:Rat) / 64,(y:Rat) / 64⟩
def dX (k:Int):Nat:=if k=2 then 1 else if k=3∨k=5 then 2 else if k=4 then 3 else 0
def gG (s:Sg) (i:Nat):Rat:=if s.k=5∧i=0 then (s.w:Rat) / 64 else 1
def nT (s:Sg) (m:MQ) (i:Nat):HQ:=HQ.wt (m.app (au (s.v (2*i)) (s.v (2*i+1)))) (gG s i)
def bQ (f:PQ) (s:Sg) (m:MQ):List HQ:=HQ.wt (m.app f) 1::(List.range (dX s.k)).map (nT s m)
def ea (s:Sg):PQ:=if s.k=2 then au (s.v 0) (s.v 1) else if s.k=4 then au (s.v 4) (s.v 5) else au (s.v 2) (s.v 3)
structure Sub where
 x:Int
 y:Int
 l:List Sg
 closed:Bool
def Sub.f (u:Sub):PQ:=au u.x u.y
def bN (m:MQ) (tol:Rat) (f:PQ) (s:Sg):List PQ:=(vq (bQ f s m) tol).1.drop 1
def bV (m:MQ) (tol:Rat) (f:PQ):List Sg→List PQ
 | []=>[]
 | s::r=>bN m tol f s++bV m tol (ea s) r
def gU (f:PQ):List Sg→PQ
 | []=>f
 | s::r=>gU (ea s) r
def dE (m:MQ) (tol:Rat) (u:Sub):List PQ:=m.app u.f::bV m tol u.f u.l
def ly (m:MQ) (tol:Rat) (u:Sub):List PQ×Bool:=(bz (dE m tol u) u.closed,u.closed)
structure Cut where
 done:List Sub
 cur:Sub
 op:Bool
def Cut.step (c:Cut) (s:Sg):Cut :=
 if s.k=1 then ⟨c.done++(if c.op then [c.cur] else []),⟨s.v 0,s.v 1,[],false⟩,true⟩
 else if s.k=6 then ⟨c.done++[⟨c.cur.x,c.cur.y,c.cur.l,true⟩],⟨c.cur.x,c.cur.y,[],false⟩,false⟩
 else ⟨c.done,⟨c.cur.x,c.cur.y,c.cur.l++[s],c.cur.closed⟩,true⟩
def iN:Cut:=⟨[],⟨0,0,[],false⟩,false⟩
def cC (l:List Sg):Cut:=l.foldl Cut.step iN
def Cut.all (c:Cut):List Sub:=c.done++(if c.op then [c.cur] else [])
def aU (l:List Sg):List Sub:=(cC l).all
def dM (l:List Sg) (m:MQ) (tol:Rat):List (List PQ×Bool):=(aU l).map (ly m tol)
theorem kz (m:MQ) (tol:Rat):∀(f:PQ) (l:List Sg) (s:Sg),bV m tol f (l++[s])=bV m tol f l++bN m tol (gU f l) s
 | f,[],s=>by simp [bV,gU]
 | f,a::l,s=>by simp [bV,gU,kz m tol (ea a) l s]
theorem me:∀(f:PQ) (l:List Sg) (s:Sg),gU f (l++[s])=ea s
 | f,[],s=>rfl
 | f,a::l,s=>by simp [gU,me (ea a) l s]
theorem Bt (l:List Sg) (s:Sg):cC (l++[s])=(cC l).step s:=by unfold cC; simp
theorem nW {l:List Sg} {i:Nat} (h:i<l.length):cC (l.take (i+1))=(cC (l.take i)).step l[i]:=by
 rw [List.take_succ_eq_append_getElem h,Bt]
structure Cut.In (c:Cut) (n:Nat) (P:Sg→Prop):Prop where
 done:∀u∈c.done,∀s∈u.l,P s
 cur:∀s∈c.cur.l,P s
 num:c.done.length+(if c.op then 1 else 0)≤n
 len:(c.done.map fun u=>u.l.length).sum+c.cur.l.length≤n
 shut:c.op=false→c.cur.l=[]
 opn:c.cur.closed=false
theorem Fi {P:Sg→Prop} {c:Cut} {n:Nat} {s:Sg} (hc:c.In n P) (h:s.k≠1→s.k≠6→P s):(c.step s).In (n+1) P:=by
 obtain ⟨h1,h2,h3,h4,h5,h6⟩:=hc
 unfold Cut.step
 split
 ·cases hc:c.op with
  | true =>
   rw [hc] at h3
   refine ⟨?_,by simp,?_,?_,by simp,rfl⟩
   ·simp only [if_true]
    intro u hu
    rcases List.mem_append.1 hu with hu|hu
    ·exact h1 u hu
    ·rw [List.mem_singleton] at hu; subst hu; exact h2
   ·simp at h3 ⊢; omega
   ·simp at h4 ⊢; omega
  | false =>
   rw [hc] at h3
   refine ⟨by simpa using h1,by simp,?_,?_,by simp,rfl⟩
   ·simp at h3 ⊢; omega
   ·simp at h4 ⊢; omega
 ·split
  ·refine ⟨?_,by simp,?_,?_,by simp,rfl⟩
   ·intro u hu
    rcases List.mem_append.1 hu with hu|hu
    ·exact h1 u hu
    ·rw [List.mem_singleton] at hu; subst hu; exact h2
   ·cases hc:c.op<;>rw [hc] at h3<;>simp at h3 ⊢ <;> omega
   ·simp at h4 ⊢; omega
  ·rename_i k1 k6
   refine ⟨h1,?_,?_,?_,by simp,h6⟩
   ·intro x hx
    rcases List.mem_append.1 hx with hx|hx
    ·exact h2 x hx
    ·rw [List.mem_singleton] at hx; subst hx; exact h k1 k6
   ·cases hc:c.op<;>rw [hc] at h3<;>simp at h3 ⊢ <;> omega
   ·simp at h4 ⊢; omega
theorem xS {P:Sg→Prop}:∀(l:List Sg) (c:Cut) (n:Nat),c.In n P→(∀s∈l,s.k≠1→s.k≠6→P s)→(l.foldl Cut.step c).In (n+l.length) P
 | [],c,n,hc,_=>hc
 | s::l,c,n,hc,h=>by
  have:=xS l (c.step s) (n+1) (Fi hc (h s (by simp))) fun x hx=>h x (by simp [hx])
  rwa [List.length_cons,show n+(l.length+1)=n+1+l.length by omega]
theorem nV {P:Sg→Prop} {l:List Sg} (h:∀s∈l,s.k≠1→s.k≠6→P s):(cC l).In l.length P:=by
 have:=xS l iN 0 ⟨by simp [iN],by simp [iN],by simp [iN],by simp [iN],fun _=>rfl,rfl⟩ h
 rwa [Nat.zero_add] at this
theorem jY (x:PQ):∀(a:PQ) (l:List PQ),eo a (l++[x])=eo a l++(if (eo a l).getLastD a=x then [] else [x])
 | a,[]=>by
  show (if x=a then [] else [x])=if a=x then [] else [x]
  by_cases h:x=a
  ·rw [if_pos h,if_pos h.symm]
  ·rw [if_neg h,if_neg (fun e:a=x=>h e.symm)]
 | a,b::l=>by
  simp only [List.cons_append,eo]
  by_cases h:b=a
  ·subst h
   simp only [if_true]
   exact jY x b l
  ·simp only [h,if_false]
   rw [jY x b l,List.cons_append]
   congr 2
   cases eo b l<;>rfl
theorem p9 (l:List PQ) (x:PQ):aR (l++[x])=aR l++(if (aR l).getLast?=some x then [] else [x]):=by
 cases l with
 | nil=>rfl
 | cons a l =>
  have e:(aR (a::l)).getLast?=some ((eo a l).getLastD a):=by
   rw [List.getLastD_eq_getLast?]; exact List.getLast?_cons
  show a::eo a (l++[x])=(a::eo a l)++(if (aR (a::l)).getLast?=some x then [] else [x])
  rw [jY]
  by_cases h:(eo a l).getLastD a=x
  ·rw [if_pos h,if_pos (by rw [e,h]),List.append_nil,List.append_nil]
  ·rw [if_neg h,if_neg (by rw [e]; simpa using h)]; rfl
theorem mb:∀(a:PQ) (l:List PQ),(eo a l).getLastD a=l.getLastD a
 | a,[]=>rfl
 | a,b::l=>by
  simp only [eo]
  split
  ·rename_i e; subst e; rw [mb b l,List.getLastD_cons]
  ·simp only [List.getLastD_cons]; exact mb b l
def lQ (m:MQ):List AV:=fC m.a++(fC m.b++(fC m.c++(fC m.d++(fC m.e++fC m.f))))
def vP (m:MQ):AV := .agg (lQ m)
theorem oX (m:MQ):roL (lQ m):=by unfold lQ; simp -implicitDefEqProofs [go_sem,aB]
theorem ug (m:MR) (hm:m.In 1000):ab Tryz.prog 18 [m.av] (vP m.val):=by
 have k0:=tO m.a hm.a.mono
 have k1:=tO m.b hm.b.mono
 have k2:=tO m.c hm.c.mono
 have k3:=tO m.d hm.d.mono
 have k4:=tO m.e hm.e.mono
 have k5:=tO m.f hm.f.mono
 have e:vP m.val = .agg (fC m.a.val++(fC m.b.val++(fC m.c.val++(fC m.d.val++(fC m.e.val++fC m.f.val))))):=rfl
 rw [e]
 generalize m.a.val=r0 at *
 generalize m.b.val=r1 at *
 generalize m.c.val=r2 at *
 generalize m.d.val=r3 at *
 generalize m.e.val=r4 at *
 generalize m.f.val=r5 at *
 simp only [co] at *
 unfold RQ.av fC qA at *
 refine Pg Tryz.func18 rfl [.cell 2 47] rfl (by simp -implicitDefEqProofs [go_sem,aB]) ?_
 unfold MR.av MR.cs
 simp -implicitDefEqProofs [go_sem]
 refine aa k0 ?_
 simp -implicitDefEqProofs [go_sem]
 refine aa k1 ?_
 simp -implicitDefEqProofs [go_sem]
 refine aa k2 ?_
 simp -implicitDefEqProofs [go_sem]
 refine aa k3 ?_
 simp -implicitDefEqProofs [go_sem]
 refine aa k4 ?_
 simp -implicitDefEqProofs [go_sem]
 refine aa k5 ?_
 simp -implicitDefEqProofs [go_sem,aS]
@[go_sem] theorem MW (a b c d e:AV):ez [a,b,c,d,e]=ar (ar (ar (ar (ar (fun _ => .any) 0 a) 1 b) 2 c) 3 d) 4 e:=by
 funext k; unfold ez ar
 rcases k with _|_|_|_|_|k<;>simp
theorem uY (a x c y e:Rat) {n:Nat} (hn:n≤1073741824) (ha:sz a≤n) (hx:sz x≤n) (hc:sz c≤n) (hy:sz y≤n) (he:sz e≤n):ab Tryz.prog 201 [fA a,fA x,fA c,fA y,fA e] (fA (a*x+c*y+e)):=by
 have z1:=ce a x
 have z2:=ce c y
 have z3:=sz_add (a*x) (c*y)
 have k1:=cD a x (by omega) (by omega)
 have k2:=cD c y (by omega) (by omega)
 have k3:=eF (a*x) (c*y) (by omega) (by omega)
 have k4:=eF (a*x+c*y) e (by omega) (by omega)
 generalize a*x+c*y+e=r4 at *
 generalize a*x+c*y=r3 at *
 generalize a*x=r1 at *
 generalize c*y=r2 at *
 simp only [co] at *
 refine Pg Tryz.func201 rfl [.cell 10 45] rfl (by simp -implicitDefEqProofs [go_sem]) ?_
 simp -implicitDefEqProofs [go_sem]
 refine aa k1 ?_
 simp -implicitDefEqProofs [go_sem]
 refine aa k2 ?_
 simp -implicitDefEqProofs [go_sem]
 refine aa k3 ?_
 simp -implicitDefEqProofs [go_sem]
 refine aa k4 ?_
 simp -implicitDefEqProofs [go_sem,aS]
theorem qb (m:MQ) (p:PQ) {n:Nat} (hn:n≤1073741824) (hm:sz m.a≤n∧sz m.b≤n∧sz m.c≤n∧sz m.d≤n∧sz m.e≤n∧sz m.f≤n) (hp:p.sz≤n):ab Tryz.prog 121 [vP m,eA p] (eA (m.app p)):=by
 obtain ⟨h1,h2,h3,h4,h5,h6⟩:=hm
 obtain ⟨p1,p2⟩:=dH p hp
 have k1:=uY m.a p.x m.c p.y m.e hn h1 p1 h3 p2 h5
 have k2:=uY m.b p.x m.d p.y m.f hn h2 p1 h4 p2 h6
 have e:eA (m.app p) = .agg (fC (m.a*p.x+m.c*p.y+m.e)++fC (m.b*p.x+m.d*p.y+m.f)):=rfl
 have e2:eA p = .agg (fC p.x++fC p.y):=rfl
 rw [e,e2]
 unfold vP lQ
 generalize m.a*p.x+m.c*p.y+m.e=r1 at *
 generalize m.b*p.x+m.d*p.y+m.f=r2 at *
 simp only [co] at *
 unfold fC qA at *
 refine Pg Tryz.func121 rfl [.cell 4 118] rfl (by simp -implicitDefEqProofs [go_sem]) ?_
 simp -implicitDefEqProofs [go_sem]
 refine aa k1 ?_
 simp -implicitDefEqProofs [go_sem]
 refine aa k2 ?_
 simp -implicitDefEqProofs [go_sem,aS]
def NC (s:SR):Prop:=0<s.tol.val∧0≤s.cap∧s.cap≤2∧0≤s.join∧s.join≤2∧1≤s.miter.val∧s.miter.val≤64
instance (s:SR):Decidable (NC s):=inferInstanceAs (Decidable (_∧_))
structure SR.In (n:Nat) (s:SR):Prop where
 width:s.width.In n
 miter:s.miter.In n
 tol:s.tol.In n
def lG (ne n0 a0:Nat) (hl:List (Nat×BS)) (a:Nat) (f:Nat→BS):Prop :=
 (∀p∈hl,∀q∈hl,nm [(a0,a)] p.1=nm [(a0,a)] q.1→p.1=q.1)∧∀p∈hl,p.1<n0∧f (nm [(a0,a)] p.1)=gu (nm [(a0,a)]) p.2∧dJ ne n0 p
theorem EO (a:Nat):nm [(a,a)]=id:=by
 funext j
 simp only [eT,j9,id]
 split
 ·rename_i h; exact h.symm
 ·rfl
theorem iB (b:BS):gu id b=b:=by
 cases b with
 | live sz l=>simp only [gu,renL_id]
 | obj o t=>simp only [gu]
 | _=>rfl
@[go_sem] theorem N1 (a b c d e f g h:AV):ez [a,b,c,d,e,f,g,h]=ar (ar (ar (ar (ar (ar (ar (ar (fun _ => .any) 0 a) 1 b) 2 c) 3 d) 4 e) 5 f) 6 g) 7 h:=by
 funext k; unfold ez ar
 match k with
 | 0=>rfl
 | 1=>rfl
 | 2=>rfl
 | 3=>rfl
 | 4=>rfl
 | 5=>rfl
 | 6=>rfl
 | 7=>rfl
 | k+8=>simp
attribute [go_sem] li
@[go_sem] theorem NO (rn:Nat→Nat) (l:List PQ):ren rn (pL l)=pL l:=sI rn _ (li l)
@[go_sem] theorem Nb (n:Nat) (l:List PQ):clo n (pL l)=True:=eq_true (rE _ (li l))
theorem zh:∀(l:List PQ),(aR l).getLast?=l.getLast?
 | []=>rfl
 | a::l=>by
  unfold aR
  rw [List.getLast?_cons,List.getLast?_cons,←List.getLastD_eq_getLast?,←List.getLastD_eq_getLast?,mb]
theorem p_ {l:List PQ} {m:Nat} (h0:0<m) (h:m<l.length):aR (l.take (m+1))=if l[m]=l[m-1]'(by omega) then aR (l.take m) else aR (l.take m)++[l[m]]:=by
 rw [List.take_succ_eq_append_getElem h,p9,zh]
 have e:(l.take m).getLast?=some (l[m-1]'(by omega)):=by
  rw [List.getLast?_eq_getElem?,List.length_take,Nat.min_eq_left (by omega),List.getElem?_take_of_lt (by omega),List.getElem?_eq_getElem (by omega)]
 rw [e]
 by_cases hx:l[m]=l[m-1]'(by omega)
 ·rw [if_pos (by rw [hx]),if_pos hx,List.append_nil]
 ·rw [if_neg (fun h=>hx (Option.some.inj h).symm),if_neg hx]
theorem vG {l:List PQ} (h:0<l.length):aR (l.take 1)=l.take 1:=by
 cases l with
 | nil=>simp at h
 | cons a l=>rfl
theorem pT {α:Type} {X:List α} {i:Nat} {q:α} (h:i<X.length):(X.set i q).take (i+1)=X.take i++[q]:=by
 rw [List.take_succ_eq_append_getElem (by rw [List.length_set]; exact h),List.getElem_set_self,List.take_set_of_le (Nat.le_refl _)]
theorem vH (l:List PQ) (hn:l.length≤1048576) (hs:∀p∈l,p.sz≤1000000) (b ne:Nat) (hb:b<ne) (f:Nat→BS) (rest:List (Nat×BS)) (K:AV→(Nat→BS)→Nat→Prop)
 (hf:f b = .live 6 (l.map pA)) (hr:∀p∈rest,p.1<ne∧p.1≠b∧f p.1=p.2∧dJ ne ne p) (hrr:∀p∈rest,∀N,hp N rest p.1=p.2)
 (hK:∀f' n',f' b = .live 6 ((aR l).map pA)→(∀p∈rest,f' p.1=p.2)→K (.own 6 b 0 (aR l).length) f' n'):CA Tryz.prog 147 [.own 6 b 0 l.length,.fn (.func 33) [] []] f ne K:=by
 have hsame:∀(i j:Nat) (hi:i<l.length) (hj:j<l.length),ab Tryz.prog 33 [.agg (pC l[i]),.agg (pC l[j])] (.bool (decide (l[i]=l[j]))):=fun i j hi hj=>by
  have z1:=hs _ (List.getElem_mem hi)
  have z2:=hs _ (List.getElem_mem hj)
  exact gc l[i] l[j] (by omega) (by omega)
 refine Cz Tryz.func147 rfl [.tmp 4] rfl ?_
 by_cases h2:l.length<2
 ·have e:aR l=l:=by
   match l,h2 with
   | [],_=>rfl
   | [a],_=>rfl
   | a::b::l,h=>exact absurd h (by simp)
  rw [e] at hK
  have h2':(l.length:Int)<2:=by omega
  simp -implicitDefEqProofs [go_sem,h2']
  exact hK _ _ hf fun p hp=>(hr p hp).2.2.1
 have h2':¬(l.length:Int)<2:=by omega
 simp -implicitDefEqProofs [go_sem,h2']
 obtain ⟨V,hV⟩:∃V,V=l.map pA:=⟨_,rfl⟩
 have hVl:V.length=l.length:=by rw [hV]; simp
 have hVr:roL V:=by rw [hV]; exact c8 _
 have hVg:∀i (h:i<l.length),V[i]?=some (.agg (pC l[i])):=fun i h=>by rw [hV]; simp [h,cE]
 rw [←hV] at hf
 have hm0:∀j,f j=f (nm [] j):=fun _=>rfl
 refine aj ne (α:={i:Nat // 1≤i∧i≤l.length∧aR (l.take i)=l.take i}) (fun i=>[(0,.own 6 b 0 l.length),(1,.fn (.func 33) [] []),(5,.int .i64 i.1)])
  (fun i=>(b,.live 6 V)::rest) (fun i=>l.length-i.1) ⟨1,by omega,by omega,vG (by omega)⟩ [] (by simp) (fun _ _ _ _ h=>h) (by simp) (by simp -implicitDefEqProofs [go_sem,hb]) (fun p hp=>?_) fun ⟨i,hi1,hi,hci⟩=>?_
 ·rcases List.mem_cons.1 hp with rfl|hp
  ·exact ⟨hb,by simp only [dT]; rw [renL_ro _ _ hVr]; exact hf,cloL_ro _ hVr⟩
  ·obtain ⟨h1,h2,h3,h4⟩:=hr p hp
   exact ⟨h1,h3.trans (iB _).symm,h4⟩
 have hrest:∀(W:List AV),∀p∈rest,hp ne ((b,.live 6 W)::rest) p.1=p.2:=fun W p hp'=>by
  have:=(hr p hp').2.1
  rw [js,ac _ _ _ this]
  exact hrr p hp' ne
 have hnb:¬ne≤b:=by omega
 have hfix:∀p∈rest,m9 p.2=p.2:=fun p hpm=>by
  obtain ⟨_,_,_,h4⟩:=hr p hpm
  refine D6 fun h=>?_
  obtain ⟨j,bb⟩:=p
  simp only at h
  subst h
  simp only [dJ] at h4
 by_cases a:i<l.length
 ·obtain ⟨k,rfl⟩:∃k,i=k+1:=⟨i-1,by omega⟩
  have a1:(k:Int)+1<l.length:=by omega
  have a2:k+1<V.length:=by omega
  have a3:k<V.length:=by omega
  have g1:V[k+1]'a2 = .agg (pC l[k+1]):=by have:=hVg _ a; rw [List.getElem?_eq_getElem a2] at this; exact Option.some.inj this
  have g2:V[k]'a3 = .agg (pC l[k]):=by have:=hVg k (by omega); rw [List.getElem?_eq_getElem a3] at this; exact Option.some.inj this
  have w1:IntKind.i64.wrap ((k:Int)+1+1)=(k:Int)+1+1:=by rw [bO (by omega)]
  have w2:IntKind.i64.wrap (k:Int)=k:=by rw [bO (by omega)]
  have hsm:=hsame (k+1) k a (by omega)
  have hct:=p_ (l:=l) (m:=k+1) (by omega) a
  simp only [Nat.add_sub_cancel] at hct
  simp -implicitDefEqProofs [go_sem,a1]
  refine az (by kernel_rfl) ?_
  have h01:(0:Int)≤(k:Int)+1:=by omega
  have a4:k<l.length:=by omega
  simp -implicitDefEqProofs [go_sem,a1,hnb,w2,h01,a2,a3,a4,g1,g2]
  refine aa hsm ?_
  by_cases e:l[k+1]=l[k]
  ·simp -implicitDefEqProofs [go_sem,e]
   rw [if_pos e] at hct
   have hc0:(aR (l.take (k+1+1))).length=k+1:=by rw [hct,hci,List.length_take]; omega
   refine ⟨⟨h01,by omega⟩,?_⟩
   refine aj ne (α:={p:List PQ×Nat // 1≤p.2∧p.2≤l.length-(k+1)∧p.1.length=l.length∧p.1.take (aR (l.take (k+1+p.2))).length=aR (l.take (k+1+p.2))∧(aR (l.take (k+1+p.2))).length≤k+p.2∧∀j,k+p.2≤j→p.1[j]?=l[j]?})
    (fun p=>[(0,.own 6 b 0 l.length),(1,.fn (.func 33) [] []),(5,.int .i64 (aR (l.take (k+1+p.1.2))).length),(6,.own 6 b (k+1) (l.length-(k+1))),(7,.int .i64 p.1.2)])
    (fun p=>(b,.live 6 (p.1.1.map pA))::rest) (fun p=>l.length-p.1.2) ⟨(l,1),by omega,by omega,rfl,by rw [hct,hci,List.length_take,Nat.min_eq_left (by omega)],by simp only; omega,fun _ _=>rfl⟩ [] (by simp) (fun _ _ _ _ h=>h) (by simp) (by simp -implicitDefEqProofs [go_sem,hb,hc0]) (fun p hpm=>?_) fun ⟨(X,m),hm1,hm,hXl,hXt,hcl,hXj⟩=>?_
   ·rcases List.mem_cons.1 hpm with rfl|hpm
    ·simp only [←hV]
     exact ⟨hb,by simp only [dT]; rw [renL_ro _ _ hVr]; simp -implicitDefEqProofs [go_sem],cloL_ro _ hVr⟩
    ·obtain ⟨h1,h2,h3,h4⟩:=hr p hpm
     refine ⟨h1,?_,h4⟩
     simp -implicitDefEqProofs [go_sem,show p.1<ne+11 by omega,h2,hrr p hpm ne,hfix p hpm]
     exact (iB _).symm
   simp only at hm1 hm hXl hXt hcl hXj
   obtain ⟨c0,hc00⟩:∃c0,c0=(aR (l.take (k+1+m))).length:=⟨_,rfl⟩
   rw [←hc00] at hXt hcl
   have hWr:roL (X.map pA):=c8 _
   have hWg:∀j (h:j<X.length),(X.map pA)[j]'(by rw [List.length_map]; exact h) = .agg (pC X[j]):=fun j h=>by rw [List.getElem_map]; rfl
   have hWl:(X.map pA).length=l.length:=by rw [List.length_map]; exact hXl
   have hXg:∀j (h:j<l.length),k+m≤j→X[j]'(by omega)=l[j]:=fun j h hj=>by
    have:=hXj j hj
    rw [List.getElem?_eq_getElem (by omega),List.getElem?_eq_getElem h] at this
    exact Option.some.inj this
   by_cases c:m<l.length-(k+1)
   ·have d2:k+1+m<l.length:=by omega
    have d3:k+m<l.length:=by omega
    obtain ⟨m,rfl⟩:∃m',m=m'+1:=⟨m-1,by omega⟩
    have c1:(m:Int)+1<((l.length-(k+1):Nat):Int):=by omega
    have g3:=(hWg (k+1+(m+1)) (by omega)).trans (by rw [hXg _ d2 (by omega)])
    have g4:=(hWg (k+1+m) (by omega)).trans (by rw [hXg _ (by omega) (by omega)])
    have b2:k+1+(m+1)<(X.map pA).length:=by omega
    have b3:k+1+m<(X.map pA).length:=by omega
    have w3:IntKind.i64.wrap (m:Int)=m:=by rw [bO (by omega)]
    have w4:IntKind.i64.wrap ((m:Int)+1+1)=(m:Int)+1+1:=by rw [bO (by omega)]
    have hsm2:=hsame (k+1+(m+1)) (k+1+m) d2 (by omega)
    have hct2:=p_ (l:=l) (m:=k+1+(m+1)) (by omega) d2
    simp only [show k+1+(m+1)-1=k+1+m by omega] at hct2
    have h02:(0:Int)≤(m:Int)+1:=by omega
    have c2:m+1<l.length-(k+1):=c
    have c3:m<l.length-(k+1):=by omega
    have b4:c0<(X.map pA).length:=by omega
    have b5:(c0:Int)<l.length:=by omega
    have g5:=hWg c0 (by omega)
    have w5:=wT c0 (by omega)
    have hset:(X.map pA).set c0 (.agg (pC l[k+1+(m+1)]))=(X.set c0 l[k+1+(m+1)]).map pA:=by rw [List.map_set]; rfl
    have b6:c0<l.length:=by omega
    have hc01:=hc00.symm
    obtain ⟨W,hW⟩:∃W,X.map pA=W:=⟨_,rfl⟩
    simp only [hW] at hWr hWl g3 g4 g5 b2 b3 b4 hset
    simp -implicitDefEqProofs [go_sem,c1,hc01,hW]
    refine az (by kernel_rfl) ?_
    simp -implicitDefEqProofs [go_sem,c1,hnb,w3,h02,b2,b3,c2,c3,g3,g4]
    refine aa hsm2 ?_
    by_cases e2:l[k+1+(m+1)]=l[k+1+m]
    ·rw [if_pos e2] at hct2
     simp -implicitDefEqProofs [go_sem,e2,w4]
     refine ae ⟨(X,m+1+1),by omega,by omega,hXl,by rw [show k+1+(m+1+1)=k+1+(m+1)+1 by omega,hct2,←hc00]; exact hXt,by simp only; rw [show k+1+(m+1+1)=k+1+(m+1)+1 by omega,hct2,←hc00]; omega,fun j hj=>hXj j (by simp only at hj; omega)⟩ (by simp only; omega) [] (by simp) (fun _ _ _ _ h=>h) (by simp) (by simp -implicitDefEqProofs [go_sem,hb,show k+1+(m+1+1)=k+1+(m+1)+1 by omega,hct2,hc00]) (fun p hpm=>?_)
     rcases List.mem_cons.1 hpm with rfl|hpm
     ·simp only [hW]
      exact ⟨hb,by simp only [dT]; rw [renL_ro _ _ hWr]; simp -implicitDefEqProofs [go_sem,show b<ne+12 by omega],cloL_ro _ hWr⟩
     ·obtain ⟨h1,h2,h3,h4⟩:=hr p hpm
      refine ⟨h1,?_,h4⟩
      simp -implicitDefEqProofs [go_sem,show p.1<ne+12 by omega,h2,hrr p hpm ne,hfix p hpm]
      exact (iB _).symm
    ·rw [if_neg e2] at hct2
     have hl2:(aR (l.take (k+1+(m+1))++[])).length=c0:=by rw [List.append_nil]; exact hc00.symm
     simp -implicitDefEqProofs [go_sem,e2,w4,w5,h02,b2,c2,g3,b4,b5,b6,g5,hset]
     have hcl2:(aR (l.take (k+1+(m+1+1)))).length=c0+1:=by rw [show k+1+(m+1+1)=k+1+(m+1)+1 by omega,hct2,List.length_append,←hc00]; rfl
     refine ⟨c1,ae ⟨(X.set c0 l[k+1+(m+1)],m+1+1),by omega,by omega,by rw [List.length_set]; exact hXl,by
      simp only
      rw [hcl2,pT (by omega),hXt,show k+1+(m+1+1)=k+1+(m+1)+1 by omega,hct2],by simp only; omega,fun j hj=>by
      simp only at hj ⊢
      rw [List.getElem?_set_ne (by omega)]
      exact hXj j (by omega)⟩ (by simp only; omega) [] (by simp) (fun _ _ _ _ h=>h) (by simp) (by simp -implicitDefEqProofs [go_sem,hb,hcl2]) (fun p hpm=>?_)⟩
     have hWr2:roL ((X.set c0 l[k+1+(m+1)]).map pA):=c8 _
     rcases List.mem_cons.1 hpm with rfl|hpm
     ·simp only
      exact ⟨hb,by simp only [dT]; rw [renL_ro _ _ hWr2]; simp -implicitDefEqProofs [go_sem,show b<ne+12 by omega,hset],cloL_ro _ hWr2⟩
     ·obtain ⟨h1,h2,h3,h4⟩:=hr p hpm
      refine ⟨h1,?_,h4⟩
      simp -implicitDefEqProofs [go_sem,show p.1<ne+12 by omega,h2,hrr p hpm ne,hfix p hpm]
      exact (iB _).symm
   ·have c1:¬(m:Int)<((l.length-(k+1):Nat):Int):=by omega
    have hmm:k+1+m=l.length:=by omega
    have hc01:=hc00.symm
    rw [hmm,List.take_length] at hXt hc00
    have hWt:(X.map pA).take c0=(aR l).map pA:=by rw [←List.map_take,hXt]
    have b5:(c0:Int)≤l.length:=by omega
    have b6:c0≤l.length:=by omega
    have b7:c0<l.length:=by omega
    have b8:c0≤(X.map pA).length:=by omega
    obtain ⟨W,hW⟩:∃W,X.map pA=W:=⟨_,rfl⟩
    simp only [hW] at hWr hWl hWt b8
    simp -implicitDefEqProofs [go_sem,c1,hc01,hW,b5,b6]
    refine B9 (b:=b) (off:=c0) (len:=l.length-c0) (sz:=6) (sz':=6) (l:=W) NU rfl NV (by simp -implicitDefEqProofs [go_sem]) (by simp -implicitDefEqProofs [go_sem]) ⟨rfl,by omega,by omega⟩ ?_
    simp -implicitDefEqProofs [go_sem,b5,b6,hWt]
    rw [hc00]
    exact hK _ _ (ah _ _ _) (fun p hpm=>by rw [ac _ _ _ (hr p hpm).2.1,ac _ _ _ (hr p hpm).2.1]; exact hrr p hpm ne)
  ·rw [if_neg e] at hct
   simp -implicitDefEqProofs [go_sem,e,w1]
   refine ae ⟨k+1+1,by omega,by omega,by rw [hct,hci,List.take_succ_eq_append_getElem a]⟩ (by simp only; omega) [] (by simp) (fun _ _ _ _ h=>h) (by simp) (by simp -implicitDefEqProofs [go_sem,hb]) (fun p hpm=>?_)
   rcases List.mem_cons.1 hpm with rfl|hpm
   ·exact ⟨hb,by simp only [dT]; rw [renL_ro _ _ hVr]; simp -implicitDefEqProofs [go_sem,show b<ne+11 by omega],cloL_ro _ hVr⟩
   ·obtain ⟨h1,h2,h3,h4⟩:=hr p hpm
    refine ⟨h1,?_,h4⟩
    simp -implicitDefEqProofs [go_sem,show p.1<ne+11 by omega,h2,hrr p hpm ne,hfix p hpm]
    exact (iB _).symm
 ·have hii:i=l.length:=by omega
  have a1:¬(i:Int)<l.length:=by omega
  have e:aR l=l:=by have:=hci; rw [hii,List.take_length] at this; exact this
  simp -implicitDefEqProofs [go_sem,a1]
  rw [e] at hK
  exact hK _ _ (by rw [←hV,ah]) (fun p hpm=>by rw [ac _ _ _ (hr p hpm).2.1]; exact hrr p hpm ne)
def Hk (l:List PR):AV := .sl 6 false (l.map PR.av)
theorem xb (l:List PR):roL (l.map PR.av):=bC jQ
theorem Hw (l:List PR):ro (Hk l):=by unfold Hk; simp only [ro]; exact xb l
theorem nU {f m:Nat} {C:List PQ} (hm:m≤C.length) (h1:1<m) (he:C[0]'(by omega)=C[m-1]'(by omega)):fX (f+1) (C.take m)=fX f (C.take (m-1)):=by
 have hl:(C.take m).length=m:=by rw [List.length_take]; omega
 have e1:(C.take m).head?=some (C[0]'(by omega)):=by rw [List.head?_eq_getElem?,List.getElem?_take_of_lt (by omega),List.getElem?_eq_getElem (by omega)]
 have e2:(C.take m).getLast?=some (C[m-1]'(by omega)):=by rw [List.getLast?_eq_getElem?,hl,List.getElem?_take_of_lt (by omega),List.getElem?_eq_getElem (by omega)]
 rw [fX,if_pos ⟨by omega,by rw [e1,e2,he]⟩,List.dropLast_eq_take,hl,List.take_take,Nat.min_eq_left (by omega)]
theorem ir {f m:Nat} {C:List PQ} (hm:m≤C.length) (h:¬(1<m∧∀(_:1<m),C[0]'(by omega)=C[m-1]'(by omega))):fX f (C.take m)=C.take m:=by
 cases f with
 | zero=>rfl
 | succ f =>
  have hl:(C.take m).length=m:=by rw [List.length_take]; omega
  rw [fX,if_neg]
  rintro ⟨h1,h2⟩
  refine h ⟨by omega,fun h1=>?_⟩
  have e1:(C.take m).head?=some (C[0]'(by omega)):=by rw [List.head?_eq_getElem?,List.getElem?_take_of_lt (by omega),List.getElem?_eq_getElem (by omega)]
  have e2:(C.take m).getLast?=some (C[m-1]'(by omega)):=by rw [List.getLast?_eq_getElem?,hl,List.getElem?_take_of_lt (by omega),List.getElem?_eq_getElem (by omega)]
  rw [e1,e2] at h2
  exact Option.some.inj h2
theorem nw {α:Type} {g:α→AV} {l:List α} {i:Nat} (h:i<l.length):bk (l.map g) (i:Int)=g l[i]:=by
 unfold bk
 rw [Int.toNat_natCast,List.getD_eq_getElem?_getD,List.getElem?_map,List.getElem?_eq_getElem h]; rfl
def Sg.vs (s:Sg):List AV:=[.int .i64 (s.v 0),.int .i64 (s.v 1),.int .i64 (s.v 2),.int .i64 (s.v 3),.int .i64 (s.v 4),.int .i64 (s.v 5)]
def Sg.cs (s:Sg):List AV := .int .i64 s.k::(s.vs++[.int .i64 s.w])
def Sg.av (s:Sg):AV := .agg s.cs
theorem Sg.ro_cs (s:Sg):roL s.cs:=by unfold Sg.cs Sg.vs; simp -implicitDefEqProofs [go_sem]
theorem Sg.ro_av (s:Sg):ro s.av:=by unfold Sg.av; simp only [ro]; exact s.ro_cs
def il (l:List Sg):AV := .sl 8 false (l.map Sg.av)
theorem dN (l:List Sg):roL (l.map Sg.av):=bC Sg.ro_av
theorem sN (l:List Sg):ro (il l):=by unfold il; simp only [ro]; exact dN l
theorem ft {l:List Sg} {i:Nat} (h:i<l.length):bk (l.map Sg.av) (i:Int) = .agg l[i].cs:=nw h
theorem Sg.vs_at (s:Sg) {i:Nat} (h:i<6):(s.vs.drop i).take 1=[.int .i64 (s.v i)]:=by
 rcases (by omega:i=0∨i=1∨i=2∨i=3∨i=4∨i=5) with rfl|rfl|rfl|rfl|rfl|rfl<;>rfl
theorem C3 (v:Int):ab Tryz.prog 209 [.int .i64 v] (.bool (decide (-2147483648<v∧v<2147483648))):=by
 refine Pg Tryz.func209 rfl [.tmp 2] rfl (by simp -implicitDefEqProofs [go_sem]) ?_
 by_cases a : -2147483648<v
 ·by_cases b:v<2147483648<;>simp -implicitDefEqProofs [go_sem,a,b]
 ·simp -implicitDefEqProofs [go_sem,a]
theorem sD:ab Tryz.prog 210 [] (.agg [.int .i64 0,.int .i64 2,.int .i64 2,.int .i64 4,.int .i64 6,.int .i64 4,.int .i64 0]):=by
 refine Pg Tryz.func210 rfl [.cell 0 290] rfl (by simp -implicitDefEqProofs [go_sem]) ?_
 simp -implicitDefEqProofs [go_sem,aS,fJ,jM]
theorem zi {k:Int} (h1:1≤k) (h6:k≤6):(([.int .i64 0,.int .i64 2,.int .i64 2,.int .i64 4,.int .i64 6,.int .i64 4,.int .i64 0]:List AV).drop k.toNat).take 1=[.int .i64 (fp k:Nat)]:=by
 rcases (by omega:k=1∨k=2∨k=3∨k=4∨k=5∨k=6) with rfl|rfl|rfl|rfl|rfl|rfl<;>rfl
noncomputable instance (s:Sg):Decidable s.Good:=Classical.propDecidable _
theorem wQ (s:Sg):ab Tryz.prog 141 [s.av] (.bool (decide s.Good)):=by
 refine Pg Tryz.func141 rfl [.tmp 2] rfl (by simp -implicitDefEqProofs [go_sem]) ?_
 have hg:s.Good↔1≤s.k∧s.k≤6∧(∀i,i<6 → -2147483648<s.v i∧s.v i<2147483648∧(fp s.k≤i→s.v i=0))∧(if s.k=5 then 1≤s.w∧s.w≤4096 else s.w=0):=⟨fun ⟨a,b,c,d⟩=>⟨a,b,c,d⟩,fun ⟨a,b,c,d⟩=>⟨a,b,c,d⟩⟩
 have sro:=s.ro_cs
 have slen:s.cs.length=8:=rfl
 have hcs:s.cs = .int .i64 s.k::(s.vs++[.int .i64 s.w]):=rfl
 have hvl:s.vs.length=6:=rfl
 have hva:=fun (i:Nat) (h:i<6)=>s.vs_at h
 unfold Sg.av
 by_cases a1:s.k<1
 ·have hn:¬s.Good:=fun h=>by have:=h.k1; omega
  generalize s.vs=vs at *
  simp -implicitDefEqProofs [go_sem,hcs,hvl,a1,hn]
 by_cases a2:6<s.k
 ·have hn:¬s.Good:=fun h=>by have:=h.k6; omega
  generalize s.vs=vs at *
  simp -implicitDefEqProofs [go_sem,hcs,hvl,a1,a2,hn]
 have hc:=zi (k:=s.k) (by omega) (by omega)
 have hvr:roL s.vs:=by unfold Sg.vs; simp -implicitDefEqProofs [go_sem]
 generalize hvv:s.vs=vs at *
 have hrn:=fun rn=>renL_ro rn _ hvr
 have hcl:=cloL_ro (n:=1) _ hvr
 have kin:=fun i=>C3 (s.v i)
 have kc:=sD
 simp -implicitDefEqProofs [go_sem,hcs,a1,a2,hvl]
 refine aj 1 (α:={i:Nat // i≤6∧∀j,j<i → -2147483648<s.v j∧s.v j<2147483648∧(fp s.k≤j→s.v j=0)}) (fun i=>[(1,.ptr 0 0 0),(14,.agg vs),(15,.int .i64 i.1)]) (fun _=>[(0,.live 8 [.agg (.int .i64 s.k::(vs++[.int .i64 s.w]))])]) (fun i=>6-i.1) ⟨0,by omega,fun j h=>by omega⟩ [] (by simp) (fun _ _ _ _ h=>h) (by simp) (by simp -implicitDefEqProofs [go_sem,hrn,hcl]) (by simp -implicitDefEqProofs [go_sem,hrn,hcl]) fun ⟨i,hi,hok⟩=>?_
 by_cases a:i<6
 ·have a3:(i:Int)<6:=by omega
  have hv:=hva i a
  have ki:=kin i
  have es:=wS i (by omega)
  have a5:i≤5:=by omega
  have k7:s.k<7:=by omega
  have k0:0≤s.k:=by omega
  have kn:s.k.toNat+1≤7:=by omega
  simp -implicitDefEqProofs [go_sem,a,a3,hv,hvl]
  refine ⟨a5,?_⟩
  by_cases b : -2147483648<s.v i∧s.v i<2147483648
  rotate_left
  ·have hn:¬s.Good:=fun h=>b ⟨(h.v i a).1,(h.v i a).2.1⟩
   rw [decide_eq_false b] at ki
   refine aa ki ?_
   simp -implicitDefEqProofs [go_sem,hn]
  rw [decide_eq_true b] at ki
  refine aa ki ?_
  by_cases z:s.v i=0
  ·simp -implicitDefEqProofs [go_sem,z,es]
   exact ae ⟨i+1,a,fun j hj=>by
    rcases (by omega:j<i∨j=i) with h|rfl
    ·exact hok j h
    ·exact ⟨b.1,b.2,fun _=>z⟩⟩ (by simp only; omega) [] (by simp) (fun _ _ _ _ h=>h) (by simp) (by simp -implicitDefEqProofs [go_sem,hrn,hcl]) (by simp -implicitDefEqProofs [go_sem,hrn,hcl])
  ·simp -implicitDefEqProofs [go_sem,z]
   refine aa kc ?_
   simp -implicitDefEqProofs [go_sem,k7,k0,kn,hc,hvl]
   by_cases w:fp s.k≤i
   ·have hn:¬s.Good:=fun h=>z ((h.v i a).2.2 w)
    simp -implicitDefEqProofs [go_sem,w,show ¬i<fp s.k by omega,hn]
   ·have w2:¬((fp s.k:Nat):Int)≤i:=by omega
    have w3:i<fp s.k:=by omega
    simp -implicitDefEqProofs [go_sem,w,w2,w3,es]
    exact ae ⟨i+1,a,fun j hj=>by
     rcases (by omega:j<i∨j=i) with h|rfl
     ·exact hok j h
     ·exact ⟨b.1,b.2,fun h=>absurd h w⟩⟩ (by simp only; omega) [] (by simp) (fun _ _ _ _ h=>h) (by simp) (by simp -implicitDefEqProofs [go_sem,hrn,hcl]) (by simp -implicitDefEqProofs [go_sem,hrn,hcl])
 ·have a3:¬(i:Int)<6:=by omega
  have hi6:i=6:=by omega
  have hok6:∀j,j<6 → -2147483648<s.v j∧s.v j<2147483648∧(fp s.k≤j→s.v j=0):=fun j hj=>hok j (by omega)
  by_cases w5:s.k=5
  ·have hg':s.Good↔1≤s.w∧s.w≤4096:=by
    rw [hg,if_pos w5]
    exact ⟨fun h=>h.2.2.2,fun h=>⟨by omega,by omega,hok6,h⟩⟩
   by_cases v1:1≤s.w
   ·by_cases v2:s.w≤4096
    ·have hn:s.Good:=hg'.2 ⟨v1,v2⟩
     simp -implicitDefEqProofs [go_sem,a3,w5,hvl,v1,v2,hn]
    ·have hn:¬s.Good:=fun h=>v2 (hg'.1 h).2
     simp -implicitDefEqProofs [go_sem,a3,w5,hvl,v1,v2,hn]
   ·have hn:¬s.Good:=fun h=>v1 (hg'.1 h).1
    simp -implicitDefEqProofs [go_sem,a3,w5,hvl,v1,hn]
  ·have hg':s.Good↔s.w=0:=by
    rw [hg,if_neg w5]
    exact ⟨fun h=>h.2.2.2,fun h=>⟨by omega,by omega,hok6,h⟩⟩
   by_cases v1:s.w=0
   ·have hn:s.Good:=hg'.2 v1
    simp -implicitDefEqProofs [go_sem,a3,w5,hvl,v1,hn]
   ·have hn:¬s.Good:=fun h=>v1 (hg'.1 h)
    simp -implicitDefEqProofs [go_sem,a3,w5,hvl,v1,hn]
theorem uw (s:Sg):ab Tryz.prog 140 [s.av] (.bool (!decide s.Good)):=by
 have k:=wQ s
 have sro:=s.ro_cs
 have slen:s.cs.length=8:=rfl
 have stk:s.cs.take 8=s.cs:=rfl
 refine Pg Tryz.func140 rfl [.tmp 2] rfl (by simp -implicitDefEqProofs [go_sem]) ?_
 unfold Sg.av at *
 generalize s.cs=cs at *
 simp -implicitDefEqProofs [go_sem,slen,stk]
 refine ai _ k (by simp [go_sem,sro]) ?_
 simp -implicitDefEqProofs [go_sem]
noncomputable def nO (l:List Sg):Int:=if ∀s∈l,s.Good then -1 else (l.findIdx fun s => !decide s.Good:Nat)
theorem DT (l:List Sg):0≤nO l↔¬ ∀s∈l,s.Good:=by
 unfold nO
 split
 ·rename_i h; exact ⟨fun h=>absurd h (by omega),fun h2=>absurd h h2⟩
 ·rename_i h; exact ⟨fun _=>h,fun _=>by omega⟩
theorem uz (l:List Sg) (hl:l.length≤4096):ab Tryz.prog 208 [il l,.fn (.func 140) [] []] (.int .i64 (nO l)):=by
 refine Pg Tryz.func208 rfl [.tmp 4] rfl (by simp -implicitDefEqProofs [go_sem]) ?_
 have hPl:(l.map Sg.av).length=l.length:=by simp
 have hg0:∀i (h:i<l.length),bk (l.map Sg.av) (i:Int) = .agg l[i].cs:=fun i h=>ft h
 have hr:=dN l
 unfold il
 generalize l.map Sg.av=U at *
 simp -implicitDefEqProofs [go_sem,hPl]
 refine aj 0 (α:={i:Nat // i≤l.length∧∀j (h:j<l.length),j<i→l[j].Good}) (fun i=>[(0,.sl 8 false U),(1,.fn (.func 140) [] []),(7,.int .i64 l.length),(8,.int .i64 i.1)]) (fun _=>[]) (fun i=>l.length-i.1) ⟨0,by omega,fun j h h2=>by omega⟩ [] (by simp) (by simp) (by simp) (by simp -implicitDefEqProofs [go_sem,renL_ro (nm []) _ hr,cloL_ro (n:=0) _ hr]) (by simp -implicitDefEqProofs [go_sem]) fun ⟨i,hi,hok⟩=>?_
 by_cases a:i<l.length
 ·have a1:(i:Int)<l.length:=by omega
  have gi:=hg0 i a
  have es:=wS i (by omega)
  have k1:=uw l[i]
  unfold Sg.av at k1
  have u6:l[i].cs.length=8:=rfl
  have u7:l[i].cs.take 8=l[i].cs:=rfl
  have u9:=l[i].ro_cs
  by_cases g:l[i].Good
  ·rw [decide_eq_true g] at k1
   generalize l[i].cs=x at *
   simp -implicitDefEqProofs [go_sem,a1,a,hPl,gi,u6,u7]
   refine ai _ k1 (by simp [go_sem,u9]) ?_
   simp -implicitDefEqProofs [go_sem,es]
   exact ae ⟨i+1,a,fun j h h2=>by
    rcases (by omega:j<i∨j=i) with h3|rfl
    ·exact hok j h h3
    ·exact g⟩ (by simp only; omega) [] (by simp) (by simp) (by simp) (by simp -implicitDefEqProofs [go_sem,renL_ro (nm []) _ hr,cloL_ro (n:=0) _ hr]) (by simp -implicitDefEqProofs [go_sem])
  ·have hb:nO l=i:=by
    unfold nO
    rw [if_neg fun h=>g (h _ (List.getElem_mem a))]
    congr 1
    rw [List.findIdx_eq a]
    refine ⟨by rw [decide_eq_false g]; rfl,fun j hj=>?_⟩
    rw [decide_eq_true (hok j (by omega) hj)]; rfl
   rw [decide_eq_false g] at k1
   rw [hb]
   generalize l[i].cs=x at *
   simp -implicitDefEqProofs [go_sem,a1,a,hPl,gi,u6,u7]
   refine ai _ k1 (by simp [go_sem,u9]) ?_
   simp -implicitDefEqProofs [go_sem]
 ·have a1:¬(i:Int)<l.length:=by omega
  have hb:nO l = -1:=by
   unfold nO
   rw [if_pos]
   intro s hs
   obtain ⟨j,hj,rfl⟩:=List.getElem_of_mem hs
   exact hok j hj (by omega)
  rw [hb]
  simp -implicitDefEqProofs [go_sem,a1,hPl]
theorem oU (l:List Sg) (hl:l.length≤4096):ab Tryz.prog 139 [il l,.fn (.func 140) [] []] (.bool (decide (0≤nO l))):=by
 have k:=uz l hl
 have hr:=sN l
 refine Pg Tryz.func139 rfl [.tmp 4] rfl (by simp -implicitDefEqProofs [go_sem]) ?_
 generalize il l=U at *
 simp -implicitDefEqProofs [go_sem]
 refine ai _ k (by simp [go_sem,hr]) ?_
 simp -implicitDefEqProofs [go_sem]
theorem uk:∀ {l:List Sg},Ap l↔∀i (h:i+1<l.length),¬(l[i].k=6∧l[i+1].k=6)
 | []=>by simp [Ap]
 | [a]=>by simp [Ap]
 | a::b::r=>by
  rw [Ap,uk (l:=b::r)]
  constructor
  ·rintro ⟨h1,h2⟩ i hi
   cases i with
   | zero=>exact h1
   | succ i=>exact h2 i (by simpa using hi)
  ·intro h
   refine ⟨h 0 (by simp),fun i hi=>?_⟩
   have:=h (i+1) (by simpa using hi)
   simpa using this
theorem l_ {l:List Sg} (h0:0<l.length) (c1:l.length≤4096) (c2:l[0].k=1) (c3:∀s∈l,s.Good):bL l↔∀i (h:i+1<l.length),¬(l[i].k=6∧l[i+1].k=6):=by
 have hhd:l.head?=some l[0]:=by rw [List.head?_eq_getElem?,List.getElem?_eq_getElem h0]
 rw [←uk]
 exact ⟨fun h=>h.2.2.2.2,fun h=>⟨fun e=>by subst e; simp at h0,c1,fun s hs=>by rw [hhd] at hs; cases hs; exact c2,c3,h⟩⟩
noncomputable instance (l:List Sg):Decidable (bL l):=Classical.propDecidable _
theorem pR (l:List Sg) (hl:l.length≤9223372036854775807):ab Tryz.prog 68 [il l] (.bool (decide (bL l))):=by
 refine Pg Tryz.func68 rfl [.tmp 2] rfl (by simp -implicitDefEqProofs [go_sem]) ?_
 have hPl:(l.map Sg.av).length=l.length:=by simp
 have hg0:∀i (h:i<l.length),bk (l.map Sg.av) (i:Int) = .agg l[i].cs:=fun i h=>ft h
 have hr:=dN l
 have kc:=oU l
 have hb:=DT l
 by_cases c0:l=[]
 ·have hn:¬bL l:=fun h=>h.1 c0
  subst c0
  unfold il
  simp -implicitDefEqProofs [go_sem,hn]
 have h0:0<l.length:=by have:=mt List.length_eq_zero_iff.1 c0; omega
 have d0:¬(l.length:Int)=0:=by omega
 by_cases c1:l.length≤4096
 rotate_left
 ·have hn:¬bL l:=fun h=>c1 h.2.1
  have d1:(4096:Int)<l.length:=by omega
  unfold il
  generalize l.map Sg.av=U at *
  simp -implicitDefEqProofs [go_sem,hPl,d0,d1,c0,hn]
 have d1:¬(4096:Int)<l.length:=by omega
 have d2:¬4096<l.length:=by omega
 replace kc:=kc c1
 have hhd:l.head?=some l[0]:=by rw [List.head?_eq_getElem?,List.getElem?_eq_getElem h0]
 have g0:=hg0 0 h0
 rw [show ((0:Nat):Int)=0 from rfl] at g0
 have hc0:l[0].cs = .int .i64 l[0].k::(l[0].vs++[.int .i64 l[0].w]):=rfl
 have hcl:l[0].cs.length=8:=rfl
 rw [hc0] at g0
 by_cases c2:l[0].k=1
 rotate_left
 ·have hn:¬bL l:=fun h=>c2 (h.2.2.1 _ (by rw [hhd]; rfl))
  unfold il at *
  generalize l[0].vs=vs at *
  generalize l.map Sg.av=U at *
  simp -implicitDefEqProofs [go_sem,hPl,d0,d1,d2,c0,h0,g0,c2,hn]
 by_cases c3:∀s∈l,s.Good
 rotate_left
 ·have hn:¬bL l:=fun h=>c3 h.2.2.2.1
  have hb0:=hb.2 c3
  unfold il at *
  generalize l[0].vs=vs at *
  generalize l.map Sg.av=U at *
  generalize nO l=bb at *
  simp -implicitDefEqProofs [go_sem,hPl,d0,d1,d2,c0,h0,g0,c2,hn]
  refine ai _ kc (by simp [go_sem,hr]) ?_
  simp -implicitDefEqProofs [go_sem,hb0]
 have hb0:¬0≤nO l:=fun h=>hb.1 h c3
 have hiff:=l_ h0 c1 c2 c3
 have hks:∀i (h:i<l.length),bk (l.map Sg.av) (i:Int) = .agg (.int .i64 l[i].k::(l[i].vs++[.int .i64 l[i].w])):=fun i h=>hg0 i h
 unfold il at *
 generalize nO l=bb at *
 generalize l.map Sg.av=U at *
 generalize l[0].vs=vs at *
 simp -implicitDefEqProofs [go_sem,hPl,d0,d1,d2,c0,h0,g0,c2]
 refine ai _ kc (by simp [go_sem,hr]) ?_
 simp -implicitDefEqProofs [go_sem,hb0]
 have hnn:((U.length-1:Nat):Int)=(l.length-1:Nat):=by rw [hPl]
 refine ⟨by omega,aj 0 (α:={i:Nat // i≤l.length-1∧∀j (h:j+1<l.length),j<i→¬(l[j].k=6∧l[j+1].k=6)}) (fun i=>[(0,.sl 8 false U),(25,.int .i64 (l.length-1:Nat)),(26,.int .i64 i.1)]) (fun _=>[]) (fun i=>l.length-i.1) ⟨0,by omega,fun j h h2=>by omega⟩ [] (by simp) (by simp) (by simp) (by simp -implicitDefEqProofs [go_sem,hnn,hPl,renL_ro (nm []) _ hr,cloL_ro (n:=0) _ hr]) (by simp -implicitDefEqProofs [go_sem]) fun ⟨i,hi,hok⟩=>?_⟩
 by_cases a:i<l.length-1
 ·have a1:(i:Int)<(l.length-1:Nat):=by omega
  have a2:i<l.length:=by omega
  have a3:i+1<l.length:=by omega
  have gi:=hks i a2
  have gj:=hks (i+1) a3
  rw [show ((i+1:Nat):Int)=(i:Int)+1 by omega] at gj
  have a4:(0:Int)≤(i:Int)+1:=by omega
  have a5:(i:Int)+1<l.length:=by omega
  have es:=wS i (by omega)
  have v6:l[i].vs.length=6:=rfl
  have w6:l[i+1].vs.length=6:=rfl
  have hno:l[i].k=6→l[i+1].k=6→¬bL l:=fun h1 h2 h=>hiff.1 h i a3 ⟨h1,h2⟩
  have hgo:¬(l[i].k=6∧l[i+1].k=6)→∀j (h:j+1<l.length),j<i+1→¬(l[j].k=6∧l[j+1].k=6):=fun hn j h h2=>by
   rcases (by omega:j<i∨j=i) with h3|rfl
   ·exact hok j h h3
   ·exact hn
  generalize l[i].vs=x at *
  generalize l[i+1].vs=y at *
  generalize l[i].w=xw at *
  generalize l[i+1].w=yw at *
  generalize l[i].k=xk at *
  generalize l[i+1].k=yk at *
  by_cases e1:xk=6
  ·by_cases e2:yk=6
   ·have hn:=hno e1 e2
    simp -implicitDefEqProofs [go_sem,a,a1,a2,a3,a4,a5,hPl,gi,gj,v6,w6,e1,e2,es,hn]
   ·have hh:=hgo (fun h=>e2 h.2)
    simp -implicitDefEqProofs [go_sem,a,a1,a2,a3,a4,a5,hPl,gi,gj,v6,w6,e1,e2,es]
    exact ae ⟨i+1,by omega,hh⟩ (by simp only; omega) [] (by simp) (by simp) (by simp) (by simp -implicitDefEqProofs [go_sem,renL_ro (nm []) _ hr,cloL_ro (n:=0) _ hr]) (by simp -implicitDefEqProofs [go_sem])
  ·have hh:=hgo (fun h=>e1 h.1)
   simp -implicitDefEqProofs [go_sem,a,a1,a2,a3,hPl,gi,gj,v6,w6,e1,es]
   exact ae ⟨i+1,by omega,hh⟩ (by simp only; omega) [] (by simp) (by simp) (by simp) (by simp -implicitDefEqProofs [go_sem,renL_ro (nm []) _ hr,cloL_ro (n:=0) _ hr]) (by simp -implicitDefEqProofs [go_sem])
 ·have a1:¬(i:Int)<(l.length-1:Nat):=by omega
  have hG:bL l:=hiff.2 fun j h=>hok j h (by omega)
  simp -implicitDefEqProofs [go_sem,a,a1,hG]
theorem vM (v:Int):ab Tryz.prog 92 [.int .i64 v] (.bool (!decide (-2147483648<v∧v<2147483648))):=by
 refine Pg Tryz.func92 rfl [.tmp 2] rfl (by simp -implicitDefEqProofs [go_sem]) ?_
 by_cases a:2147483648≤v
 ·have b:¬(-2147483648<v∧v<2147483648):=by omega
  rw [decide_eq_false b]
  simp -implicitDefEqProofs [go_sem,a]
 ·by_cases c:v ≤ -2147483648
  ·have b:¬(-2147483648<v∧v<2147483648):=by omega
   rw [decide_eq_false b]
   simp -implicitDefEqProofs [go_sem,a,c]
  ·have b : -2147483648<v∧v<2147483648:=by omega
   rw [decide_eq_true b]
   simp -implicitDefEqProofs [go_sem,a,c]
def ik (k:Int):Int:=if 1≤k∧k≤6 then (fp k:Nat) else -1
theorem vT (k:Int):ab Tryz.prog 91 [.int .i64 k] (.int .i64 (ik k)):=by
 refine Pg Tryz.func91 rfl [.tmp 2] rfl (by simp -implicitDefEqProofs [go_sem]) ?_
 by_cases h:k=1∨k=2∨k=3∨k=4∨k=5∨k=6
 ·rcases h with rfl|rfl|rfl|rfl|rfl|rfl
  ·rw [show ik 1=2 from rfl]; simp -implicitDefEqProofs [go_sem]
  ·rw [show ik 2=2 from rfl]; simp -implicitDefEqProofs [go_sem]
  ·rw [show ik 3=4 from rfl]; simp -implicitDefEqProofs [go_sem]
  ·rw [show ik 4=6 from rfl]; simp -implicitDefEqProofs [go_sem]
  ·rw [show ik 5=4 from rfl]; simp -implicitDefEqProofs [go_sem]
  ·rw [show ik 6=0 from rfl]; simp -implicitDefEqProofs [go_sem]
 ·have e:ik k = -1:=by unfold ik; rw [if_neg (by omega)]
  have n1:¬k=1:=fun e=>h (.inl e)
  have n2:¬k=2:=fun e=>h (.inr (.inl e))
  have n3:¬k=3:=fun e=>h (.inr (.inr (.inl e)))
  have n4:¬k=4:=fun e=>h (.inr (.inr (.inr (.inl e))))
  have n5:¬k=5:=fun e=>h (.inr (.inr (.inr (.inr (.inl e)))))
  have n6:¬k=6:=fun e=>h (.inr (.inr (.inr (.inr (.inr e)))))
  rw [e]
  simp -implicitDefEqProofs [go_sem,n1,n2,n3,n4,n5,n6]
theorem Sg.vw_at (s:Sg) {i:Nat} (h:i<6):(s.vs++[AV.int .i64 s.w]).drop i=AV.int .i64 (s.v i)::(s.vs++[AV.int .i64 s.w]).drop (i+1):=by
 rcases (by omega:i=0∨i=1∨i=2∨i=3∨i=4∨i=5) with rfl|rfl|rfl|rfl|rfl|rfl<;>rfl
def DO (l:List Sg) (i:Nat):Prop:=∀j (h:j<l.length),j<i→l[j].Good∧∀h0:0<j,¬(l[j].k=6∧(l[j-1]'(by omega)).k=6)
noncomputable instance (l:List Sg) (i:Nat):Decidable (DO l i):=Classical.propDecidable _
theorem ES {l:List Sg} (h0:0<l.length) (c1:l.length≤4096) (c2:l[0].k=1):bL l↔DO l l.length:=by
 constructor
 ·intro h j hj _
  refine ⟨h.2.2.2.1 _ (List.getElem_mem hj),fun j0=>?_⟩
  have:=(l_ h0 c1 c2 h.2.2.2.1).1 h (j-1) (by omega)
  rintro ⟨h1,h2⟩
  refine this ⟨h2,?_⟩
  have e:j-1+1=j:=by omega
  simp only [e]; exact h1
 ·intro h
  have hg:∀s∈l,s.Good:=fun s hs=>by
   obtain ⟨j,hj,rfl⟩:=List.getElem_of_mem hs
   exact (h j hj hj).1
  refine (l_ h0 c1 c2 hg).2 fun i hi=>?_
  have:=(h (i+1) hi hi).2 (by omega)
  rintro ⟨h1,h2⟩
  exact this ⟨h2,by simpa using h1⟩
theorem CT {l:List Sg} {i:Nat} (hi:i<l.length) (h:DO l i) (g:l[i].Good) (hk:∀h0:0<i,¬(l[i].k=6∧(l[i-1]'(by omega)).k=6)):DO l (i+1):=fun j hj h2=>by
 rcases (by omega:j<i∨j=i) with h3|rfl
 ·exact h j hj h3
 ·exact ⟨g,hk⟩
theorem EU {l:List Sg} {i:Nat} (hi:i<l.length) (g:¬l[i].Good):¬DO l l.length:=fun h=>g (h i hi hi).1
theorem CQ {l:List Sg} {i:Nat} (hi:i<l.length) (h0:0<i) (g:l[i].k=6∧(l[i-1]'(by omega)).k=6):¬DO l l.length:=fun h=>(h i hi hi).2 h0 g
theorem iV (l:List Sg) (hl:l.length≤9223372036854775807):ab Tryz.prog 32 [il l] (.bool (decide (bL l))):=by
 refine Pg Tryz.func32 rfl [.tmp 2] rfl (by simp -implicitDefEqProofs [go_sem]) ?_
 have hPl:(l.map Sg.av).length=l.length:=by simp
 have hks:∀i (h:i<l.length),bk (l.map Sg.av) (i:Int) = .agg (.int .i64 l[i].k::(l[i].vs++[.int .i64 l[i].w])):=fun i h=>ft h
 have hr:=dN l
 by_cases c0:l=[]
 ·have hn:¬bL l:=fun h=>h.1 c0
  subst c0
  unfold il
  simp -implicitDefEqProofs [go_sem,hn]
 have h0:0<l.length:=by have:=mt List.length_eq_zero_iff.1 c0; omega
 have d0:¬(l.length:Int)=0:=by omega
 by_cases c1:l.length≤4096
 rotate_left
 ·have hn:¬bL l:=fun h=>c1 h.2.1
  have d1:(4096:Int)<l.length:=by omega
  unfold il
  generalize l.map Sg.av=U at *
  simp -implicitDefEqProofs [go_sem,hPl,d0,d1,c0,hn]
 have d1:¬(4096:Int)<l.length:=by omega
 have d2:¬4096<l.length:=by omega
 have g0:=hks 0 h0
 rw [show ((0:Nat):Int)=0 from rfl] at g0
 have v06:l[0].vs.length=6:=rfl
 by_cases c2:l[0].k=1
 rotate_left
 ·have hhd:l.head?=some l[0]:=by rw [List.head?_eq_getElem?,List.getElem?_eq_getElem h0]
  have hn:¬bL l:=fun h=>c2 (h.2.2.1 _ (by rw [hhd]; rfl))
  unfold il at *
  generalize l[0].vs=vs at *
  generalize l.map Sg.av=U at *
  simp -implicitDefEqProofs [go_sem,hPl,d0,d1,d2,c0,h0,g0,c2,hn]
 have hiff:=ES h0 c1 c2
 have hgd:decide (bL l)=decide (DO l l.length):=by rw [decide_eq_decide]; exact hiff
 rw [hgd]
 clear hiff hgd
 have kf:=vM
 have ku:=vT
 unfold il at *
 generalize l.map Sg.av=U at *
 simp -implicitDefEqProofs [go_sem,hPl,d0,d1,d2,c0,h0,g0,c2,v06]
 refine aj 0 (α:={i:Nat // i≤l.length∧DO l i}) (fun i=>[(0,.sl 8 false U),(3,.int .i64 i.1)]) (fun _=>[]) (fun i=>l.length-i.1) ⟨0,by omega,fun j h h2=>by omega⟩ [] (by simp) (by simp) (by simp) (by simp -implicitDefEqProofs [go_sem,renL_ro (nm []) _ hr,cloL_ro (n:=0) _ hr]) (by simp -implicitDefEqProofs [go_sem]) fun ⟨i,hi,hok⟩=>?_
 by_cases a:i<l.length
 rotate_left
 ·have a1:¬(i:Int)<l.length:=by omega
  have hii:i=l.length:=by omega
  rw [hii] at hok
  simp -implicitDefEqProofs [go_sem,hPl,a1,hok]
 have a1:(i:Int)<l.length:=by omega
 have gi:=hks i a
 have es:=wS i (by omega)
 have v6:l[i].vs.length=6:=rfl
 have ki:=ku l[i].k
 have hbad:=EU a
 have hstep:=CT a hok
 have hbad6:=CQ a
 have hva:=fun (k:Nat) (h:k<6)=>l[i].vw_at h
 have hgk1:l[i].Good→1≤l[i].k∧l[i].k≤6:=fun h=>⟨h.k1,h.k6⟩
 have hgv:l[i].Good→∀k,k<6 → -2147483648<l[i].v k∧l[i].v k<2147483648∧(fp l[i].k≤k→l[i].v k=0):=fun h=>h.v
 have hgw:l[i].Good→if l[i].k=5 then 1≤l[i].w∧l[i].w≤4096 else l[i].w=0:=fun h=>h.w
 have hmk:1≤l[i].k→l[i].k≤6→(∀k,k<6 → -2147483648<l[i].v k∧l[i].v k<2147483648∧(fp l[i].k≤k→l[i].v k=0))→(if l[i].k=5 then 1≤l[i].w∧l[i].w≤4096 else l[i].w=0)→l[i].Good:=fun h1 h2 h3 h4=>⟨h1,h2,h3,h4⟩
 have hk1:i=0→l[i].k=1:=fun h=>by subst h; exact c2
 generalize hG:l[i].Good=G at *
 by_cases k16:1≤l[i].k∧l[i].k≤6
 rotate_left
 ·have hu:ik l[i].k = -1:=by unfold ik; rw [if_neg k16]
  have hn:=hbad fun h=>k16 (hgk1 h)
  rw [hu] at ki
  generalize l[i].k=k at *
  generalize l[i].vs=vs at *
  simp -implicitDefEqProofs [go_sem,hPl,a1,a,gi]
  refine ai _ ki (by simp [go_sem]) ?_
  simp -implicitDefEqProofs [go_sem,hn]
 have hu:ik l[i].k=(fp l[i].k:Nat):=by unfold ik; rw [if_pos k16]
 rw [hu] at ki
 have hu0:¬((fp l[i].k:Nat):Int)<0:=by omega
 have hgi:bk U (i:Int) = .agg (.int .i64 l[i].k::(l[i].vs++[.int .i64 l[i].w])):=gi
 have a0:(0:Int)≤i:=by omega
 by_cases k6:l[i].k=6
 focus
  have i0:0<i:=by
   rcases Nat.eq_zero_or_pos i with h|h
   ·have:=hk1 h; omega
   ·exact h
  have gp:=hks (i-1) (by omega)
  rw [show ((i-1:Nat):Int)=(i:Int)-1 by omega] at gp
  have w1:IntKind.i64.wrap ((i:Int)-1)=(i:Int)-1:=bO (by omega)
  have a2:(0:Int)≤(i:Int)-1:=by omega
  have a3:(i:Int)-1<l.length:=by omega
  have a4:(1:Int)≤i:=by omega
  have p6v:(l[i-1]'(by omega)).vs.length=6:=rfl
  have hbad6:=hbad6 i0
  have hst:¬(l[i].k=6∧(l[i-1]'(by omega)).k=6)→G→DO l (i+1):=fun hk g=>hstep g fun _=>hk
  clear hstep
  generalize (l[i-1]'(by omega)).vs=pv at *
  generalize (l[i-1]'(by omega)).w=pw at *
  generalize (l[i-1]'(by omega)).k=pk at *
  by_cases p6:pk=6
  ·have hn:=hbad6 ⟨k6,p6⟩
   generalize l[i].vs=vs at *
   simp -implicitDefEqProofs [go_sem,hPl,a1,a,gi,v6]
   refine ai _ ki (by simp [go_sem]) ?_
   simp -implicitDefEqProofs [go_sem,hu0,hPl,a1,a,gi,v6,k6,w1,a2,a3,a4,gp,p6v,p6,hn]
  have hst:=hst fun h=>p6 h.2
  generalize l[i].vs=vs at *
  simp -implicitDefEqProofs [go_sem,hPl,a1,a,gi,v6]
  refine ai _ ki (by simp [go_sem]) ?_
  simp -implicitDefEqProofs [go_sem,hu0,hPl,a1,a,gi,v6,eq_true k6,w1,a2,a3,a4,gp,p6v,p6]
 rotate_left
 focus
  have hst:G→DO l (i+1):=fun g=>hstep g fun _ h=>k6 h.1
  clear hstep
  generalize l[i].vs=vs at *
  simp -implicitDefEqProofs [go_sem,hPl,a1,a,gi,v6]
  refine ai _ ki (by simp [go_sem]) ?_
  simp -implicitDefEqProofs [go_sem,hu0,hPl,a1,a,gi,v6,k6]
 all_goals
  refine aj 0 (α:={k:Nat // k≤6∧∀j,j<k → -2147483648<l[i].v j∧l[i].v j<2147483648∧(fp l[i].k≤j→l[i].v j=0)}) (fun k=>[(0,.sl 8 false U),(3,.int .i64 i),(4,.int .i64 (fp l[i].k:Nat)),(5,.int .i64 k.1)]) (fun _=>[]) (fun k=>6-k.1) ⟨0,by omega,fun j h=>by omega⟩ [] (by simp) (by simp) (by simp) (by simp -implicitDefEqProofs [go_sem,renL_ro (nm []) _ hr,cloL_ro (n:=0) _ hr]) (by simp -implicitDefEqProofs [go_sem]) fun ⟨k,hk,hko⟩=>?_
  by_cases b:k<6
  ·have b1:(k:Int)<6:=by omega
   have b2:k≤5:=by omega
   have hv:=hva k b
   have kfk:=kf (l[i].v k)
   have ek:=wS k (by omega)
   have hnext:(-2147483648<l[i].v k∧l[i].v k<2147483648∧(fp l[i].k≤k→l[i].v k=0))→∀j,j<k+1 → -2147483648<l[i].v j∧l[i].v j<2147483648∧(fp l[i].k≤j→l[i].v j=0):=fun h j hj=>by
    rcases (by omega:j<k∨j=k) with h3|rfl
    ·exact hko j h3
    ·exact h
   have hgk:=fun g=>hgv g k b
   generalize l[i].v k=vk at *
   by_cases c : -2147483648<vk∧vk<2147483648
   rotate_left
   ·have hn:=hbad fun g=>c ⟨(hgk g).1,(hgk g).2.1⟩
    rw [decide_eq_false c] at kfk
    simp -implicitDefEqProofs [go_sem,hPl,b,b1,b2,a1,a,gi,v6,hv]
    refine ag kfk ?_
    simp -implicitDefEqProofs [go_sem,hn]
   rw [decide_eq_true c] at kfk
   simp -implicitDefEqProofs [go_sem,hPl,b,b1,b2,a1,a,gi,v6,hv]
   refine ag kfk ?_
   by_cases d:fp l[i].k≤k
   ·have d1:((fp l[i].k:Nat):Int)≤k:=by omega
    by_cases e:vk=0
    ·simp -implicitDefEqProofs [go_sem,d,d1,hPl,b,b1,b2,a1,a,gi,v6,hv,e,ek]
     exact ae ⟨k+1,by omega,hnext ⟨c.1,c.2,fun _=>e⟩⟩ (by simp only; omega) [] (by simp) (by simp) (by simp) (by simp -implicitDefEqProofs [go_sem,renL_ro (nm []) _ hr,cloL_ro (n:=0) _ hr]) (by simp -implicitDefEqProofs [go_sem])
    ·have hn:=hbad fun g=>e ((hgk g).2.2 d)
     simp -implicitDefEqProofs [go_sem,d,d1,hPl,b,b1,b2,a1,a,gi,v6,hv,e,hn]
   ·have d1:¬((fp l[i].k:Nat):Int)≤k:=by omega
    simp -implicitDefEqProofs [go_sem,d,d1,ek]
    exact ae ⟨k+1,by omega,hnext ⟨c.1,c.2,fun h=>absurd h d⟩⟩ (by simp only; omega) [] (by simp) (by simp) (by simp) (by simp -implicitDefEqProofs [go_sem,renL_ro (nm []) _ hr,cloL_ro (n:=0) _ hr]) (by simp -implicitDefEqProofs [go_sem])
  have b1:¬(k:Int)<6:=by omega
  have hall:∀j,j<6 → -2147483648<l[i].v j∧l[i].v j<2147483648∧(fp l[i].k≤j→l[i].v j=0):=fun j hj=>hko j (by omega)
  have hmk:=hmk k16.1 k16.2 hall
  generalize l[i].w=w at *
  by_cases c5:l[i].k=5
  ·rw [if_pos c5] at hmk
   have hgw:G→1≤w∧w≤4096:=fun g=>by have:=hgw g; rwa [if_pos c5] at this
   by_cases w1:1≤w
   ·have w1':¬w<1:=by omega
    by_cases w2:w≤4096
    ·have w2':¬4096<w:=by omega
     have hh:=hst (hmk ⟨w1,w2⟩)
     simp -implicitDefEqProofs [go_sem,b1,hPl,a1,a,gi,v6,eq_true c5,w1',w2',es]
     exact ae ⟨i+1,a,hh⟩ (by simp only; omega) [] (by simp) (by simp) (by simp) (by simp -implicitDefEqProofs [go_sem,renL_ro (nm []) _ hr,cloL_ro (n:=0) _ hr]) (by simp -implicitDefEqProofs [go_sem])
    ·have w2':4096<w:=by omega
     have hn:=hbad fun g=>w2 (hgw g).2
     simp -implicitDefEqProofs [go_sem,b1,hPl,a1,a,gi,v6,eq_true c5,w1',w2',hn]
   ·have w1':w<1:=by omega
    have hn:=hbad fun g=>w1 (hgw g).1
    simp -implicitDefEqProofs [go_sem,b1,hPl,a1,a,gi,v6,eq_true c5,w1',hn]
  ·rw [if_neg c5] at hmk
   have hgw:G→w=0:=fun g=>by have:=hgw g; rwa [if_neg c5] at this
   by_cases w1:w=0
   ·have hh:=hst (hmk w1)
    simp -implicitDefEqProofs [go_sem,b1,hPl,a1,a,gi,v6,eq_false c5,w1,es]
    exact ae ⟨i+1,a,hh⟩ (by simp only; omega) [] (by simp) (by simp) (by simp) (by simp -implicitDefEqProofs [go_sem,renL_ro (nm []) _ hr,cloL_ro (n:=0) _ hr]) (by simp -implicitDefEqProofs [go_sem])
   ·have hn:=hbad fun g=>w1 (hgw g)
    simp -implicitDefEqProofs [go_sem,b1,hPl,a1,a,gi,v6,eq_false c5,w1,hn]
theorem KX (w:Rat) (hw:sz w≤17179869184):ab Tryz.prog 133 [rA w,.agg [.bool false,.sl 0 true [],.sl 0 true []]] (rA w):=by
 have h:=gY (qc w) A4 (fT hw) wV.sm
 rw [cd,E9,show w+0=w by grind] at h
 exact h.args (.cons (Wk.refl _) (.cons (Wk.agg Li) .nil))
def hC (h:HQ):List AV:=rC h.x++(rC h.y++rC h.w)
theorem Cn (h:HQ):hA h = .agg (hC h):=rfl
theorem F3 (h:HQ):roL (hC h):=by have:=F2 h; rw [Cn] at this; simpa only [ro] using this
theorem zg (p:PQ) (w:Rat) (hp:p.sz≤1000000) (hw:sz w≤1000000):ab Tryz.prog 211 [pA p,rA w] (hA (HQ.wt p w)):=by
 have k1:=E7 p w (by omega) (by omega)
 have k2:=KX w (by omega)
 have e:hC (HQ.wt p w)=rC (p.scale w).x++(rC (p.scale w).y++rC w):=rfl
 rw [Cn,e]
 refine Pg Tryz.func211 rfl [.cell 4 293] rfl (by simp -implicitDefEqProofs [go_sem,jR,aB]) ?_
 generalize p.scale w=q at *
 simp only [cE,eV] at *
 have ep:pC q=rC q.x++rC q.y:=rfl
 rw [ep] at k1
 simp -implicitDefEqProofs [go_sem]
 refine ag k1 ?_
 simp -implicitDefEqProofs [go_sem,ep]
 refine aa k2 ?_
 have dd:∀a b:Rat,List.drop 6 (rC a++(rC b++[AV.bool false,.sl 0 true [],.sl 0 true []]))=[AV.bool false,.sl 0 true [],.sl 0 true []]:=fun a b=>rfl
 have d3:∀a:Rat,∀l:List AV,List.drop 3 (rC a++l)=l:=fun a l=>rfl
 have d9:∀a b c:Rat,List.drop 9 (rC a++(rC b++rC c))=[]:=fun a b c=>rfl
 have e6:∀a:Rat,List.drop 6 (rC a++[AV.bool false,.sl 0 true [],.sl 0 true [],.bool false,.sl 0 true [],.sl 0 true []])=[AV.bool false,.sl 0 true [],.sl 0 true []]:=fun a=>rfl
 have t6:∀a b:Rat,List.take 6 (rC a++(rC b++[AV.bool false,.sl 0 true [],.sl 0 true []]))=rC a++rC b:=fun a b=>rfl
 have f9:∀a b:Rat,List.drop 9 (rC a++(rC b++[AV.bool false,.sl 0 true [],.sl 0 true []]))=[]:=fun a b=>rfl
 have l9:∀a b c:Rat,List.take 9 (rC a++(rC b++rC c))=rC a++(rC b++rC c):=fun a b c=>rfl
 have hro:roL (rC q.x++(rC q.y++rC w)):=by simp -implicitDefEqProofs [go_sem,jR,aB]
 simp -implicitDefEqProofs [go_sem,aS,dd,d3,d9,e6,t6,f9,l9,viewL_ro _ _ hro,fitsL_ro _ _ hro]
theorem kY (x y:Int) (hx : -9223372036854775808≤x∧x≤9223372036854775807) (hy : -9223372036854775808≤y∧y≤9223372036854775807):ab Tryz.prog 143 [.int .i64 x,.int .i64 y] (pA (au x y)):=by
 have k1:=di x 64 hx (by omega)
 have k2:=di y 64 hy (by omega)
 rw [show ((64:Int):Rat)=64 from rfl] at k1 k2
 have ep:pA (au x y) = .agg (rC ((x:Rat) / 64)++rC ((y:Rat) / 64)):=rfl
 rw [ep]
 refine Pg Tryz.func143 rfl [.cell 4 72] rfl (by simp -implicitDefEqProofs [go_sem,jR,aB]) ?_
 generalize (x:Rat) / 64=a at *
 generalize (y:Rat) / 64=b at *
 simp only [eV] at *
 have d3:∀a:Rat,∀l:List AV,List.drop 3 (rC a++l)=l:=fun a l=>rfl
 have d6:∀a b:Rat,List.drop 6 (rC a++rC b)=[]:=fun a b=>rfl
 simp -implicitDefEqProofs [go_sem]
 refine ag k1 ?_
 simp -implicitDefEqProofs [go_sem]
 refine ag k2 ?_
 simp -implicitDefEqProofs [go_sem,aS,d3,d6]
 rfl
theorem dn {x y:Int} (hx : -9223372036854775808≤x∧x≤9223372036854775807) (hy : -9223372036854775808≤y∧y≤9223372036854775807):(au x y).sz≤1:=by
 have h1:=sU (p:=x) (q:=64) hx (by omega) (by omega)
 have h2:=sU (p:=y) (q:=64) hy (by omega) (by omega)
 rw [show ((64:Int):Rat)=64 from rfl] at h1 h2
 unfold au PQ.sz
 simp only
 omega
theorem Sg.Good.i64 {s:Sg} (h:s.Good) {i:Nat} (hi:i<6) : -9223372036854775808≤s.v i∧s.v i≤9223372036854775807:=by
 have:=h.v i hi; omega
theorem Ar (s:Sg) (hg:s.Good) (h1:s.k≠1) (h6:s.k≠6):ab Tryz.prog 146 [s.av] (pA (ea s)):=by
 have k0:=kY (s.v 0) (s.v 1) (hg.i64 (by omega)) (hg.i64 (by omega))
 have k2:=kY (s.v 2) (s.v 3) (hg.i64 (by omega)) (hg.i64 (by omega))
 have k4:=kY (s.v 4) (s.v 5) (hg.i64 (by omega)) (hg.i64 (by omega))
 have e:s.av = .agg [.int .i64 s.k,.int .i64 (s.v 0),.int .i64 (s.v 1),.int .i64 (s.v 2),.int .i64 (s.v 3),.int .i64 (s.v 4),.int .i64 (s.v 5),.int .i64 s.w]:=rfl
 rw [e]
 refine Pg Tryz.func146 rfl [.cell 2 72] rfl (ji _) ?_
 have l6:∀p:PQ,(pC p).length=6:=fun p=>rfl
 have d6:∀p:PQ,List.drop 6 (pC p)=[]:=fun p=>rfl
 unfold ea
 by_cases a2:s.k=2
 ·rw [if_pos a2]
  generalize au (s.v 0) (s.v 1)=p at *
  simp only [cE] at *
  simp -implicitDefEqProofs [go_sem,a2]
  refine ag k0 ?_
  simp -implicitDefEqProofs [go_sem,aS,l6,d6]
 rw [if_neg a2]
 by_cases a4:s.k=4
 ·rw [if_pos a4]
  generalize au (s.v 4) (s.v 5)=p at *
  simp only [cE] at *
  simp -implicitDefEqProofs [go_sem,a2,a4]
  refine ag k4 ?_
  simp -implicitDefEqProofs [go_sem,aS,l6,d6]
 rw [if_neg a4]
 generalize au (s.v 2) (s.v 3)=p at *
 simp only [cE] at *
 simp -implicitDefEqProofs [go_sem,a2,a4]
 refine ag k2 ?_
 simp -implicitDefEqProofs [go_sem,aS,l6,d6]
theorem rD:ab Tryz.prog 212 [] (.agg [.int .i64 0,.int .i64 0,.int .i64 1,.int .i64 2,.int .i64 3,.int .i64 2,.int .i64 0]):=by
 refine Pg Tryz.func212 rfl [.cell 0 290] rfl (by simp -implicitDefEqProofs [go_sem]) ?_
 simp -implicitDefEqProofs [go_sem,aS,fJ,jM]
theorem vE {k:Int} (h1:2≤k) (h6:k≤5):(([.int .i64 0,.int .i64 0,.int .i64 1,.int .i64 2,.int .i64 3,.int .i64 2,.int .i64 0]:List AV).drop k.toNat).take 1=[.int .i64 (dX k:Nat)]:=by
 rcases (by omega:k=2∨k=3∨k=4∨k=5) with rfl|rfl|rfl|rfl<;>rfl
theorem ml (k:Int):dX k≤3:=by unfold dX; split<;>(try split)<;>(try split)<;>omega
theorem F9 {p:PQ} {w:Rat} {n:Nat} (hp:p.sz≤n) (hw:Go.Proofs.YtdnmfaljidjijaaGreat.sz w≤n):(HQ.wt p w).sz≤2*n:=by
 have h1:=ce p.x w
 have h2:=ce p.y w
 have h3:=p.sz_x
 have h4:=p.sz_y
 unfold HQ.wt HQ.sz
 simp only
 omega
theorem Sg.cs_get (s:Sg) {j:Nat} (h:j<6):(AV.int .i64 s.k::(s.vs++[AV.int .i64 s.w]))[1+j]?.getD AV.any = .int .i64 (s.v j):=by
 rcases (by omega:j=0∨j=1∨j=2∨j=3∨j=4∨j=5) with rfl|rfl|rfl|rfl|rfl|rfl<;>rfl
theorem kH (f:PQ) (s:Sg) (m:MQ):(bQ f s m).length=dX s.k+1:=by unfold bQ; simp
theorem xM (f:PQ) (s:Sg) (m:MQ) {i:Nat} (h:i<dX s.k):(bQ f s m)[i+1]'(by rw [kH]; omega)=nT s m i:=by
 unfold bQ
 rw [List.getElem_cons_succ,List.getElem_map,List.getElem_range]
theorem qN {k:Int} (h1:2≤k) (h5:k≤5) {i:Nat} (hi:i<dX k):2*i+1<6:=by
 have:=ml k
 omega
theorem Dz {s:Sg} (hg:s.Good) (i:Nat):sz (gG s i)≤1:=by
 unfold gG
 split
 ·rename_i h
  have hw:=hg.w
  rw [if_pos h.1] at hw
  have h2:=sU (p:=s.w) (q:=64) (by omega) (by omega) (by omega)
  rwa [show ((64:Int):Rat)=64 from rfl] at h2
 ·have:=iF; omega
theorem Bm (f : PQ) (s : Sg) (m : MR) (hf : f.sz ≤ 1) (hg : s.Good) (h1 : s.k ≠ 1) (h6 : s.k ≠ 6) (hm : m.In 6) : ab Tryz.prog 144 [pA f, s.av, m.av] (.tup [qL (bQ f s m.val), .int .i64 0]) := by
  have hmm : m.In 100000000 := ⟨hm.a.mono, hm.b.mono, hm.c.mono, hm.d.mono, hm.e.mono, hm.f.mono⟩
  have k2 : 2 ≤ s.k := by have := hg.k1; omega
  have k5 : s.k ≤ 5 := by have := hg.k6; omega
  have one := eW 1 1 (by omega) (by omega) (by omega)
  rw [show ((1 : Int) : Rat) / ((1 : Int) : Rat) = 1 by grind] at one
  have kap := fun (q : PQ) (hq : q.sz ≤ 1) => mN m (pc q) hmm (cF (by omega))
  simp only [bJ] at kap
  have hav : m.av = .agg m.cs := rfl
  have mro := m.ro_cs
  have mlen : m.cs.length = 18 := rfl
  have mtk : m.cs.take 18 = m.cs := rfl
  have kfr := fun v hv => di v 64 hv (by omega)
  simp only [show ((64 : Int) : Rat) = 64 from rfl] at kfr
  have kc := rD
  have ka := vE k2 k5
  have hpl := ml s.k
  have happ : ∀ q : PQ, q.sz ≤ 1 → (m.val.app q).sz ≤ 100 := fun q hq => by
    have := nL hm (by omega) hq
    omega
  have kh := fun (q : PQ) (w : Rat) (hq : q.sz ≤ 100) (hw : sz w ≤ 1) => zg q w (by omega) (by omega)
  have hw1 := iF
  obtain ⟨V, hV⟩ : ∃ V, V = (bQ f s m.val).map hA := ⟨_, rfl⟩
  have hVl : V.length = dX s.k + 1 := by rw [hV, List.length_map, kH]
  have hVr : roL V := by rw [hV]; exact fk _
  have hV0 : V[0]'(by omega) = hA (HQ.wt (m.val.app f) 1) := by subst hV; rw [List.getElem_map]; rfl
  have hVs : ∀ i (h : i < dX s.k), V[i + 1]'(by omega) = hA (nT s m.val i) := fun i h => by subst hV; rw [List.getElem_map, xM _ _ _ h]
  have hres : AV.tup [qL (bQ f s m.val), .int .i64 0] = .tup [.sl 9 false V, .int .i64 0] := by rw [hV]; rfl
  have hcs : s.av = .agg s.cs := rfl
  have scs : s.cs = .int .i64 s.k :: (s.vs ++ [.int .i64 s.w]) := rfl
  have slen : s.vs.length = 6 := rfl
  have sro := s.ro_cs
  have hva := fun (k : Nat) (h : k < 6) => s.cs_get h
  have hvi := fun (i : Nat) (h : i < 6) => hg.i64 h
  have hwi : s.k = 5 → 1 ≤ s.w ∧ s.w ≤ 4096 := fun h => by have := hg.w; rwa [if_pos h] at this
  rw [hres, hcs, hav]
  rw [hav] at kap
  have hap0 := kap f hf
  rw [show (pc f).av = pA f from rfl] at hap0
  have kh0 := kh (m.val.app f) 1 (happ f hf) (by omega)
  rw [scs] at sro ⊢
  refine Pg Tryz.func144 rfl [.tmp 6, .tmp 7] rfl (by simp -implicitDefEqProofs [go_sem, hVr]) ?_
  generalize m.cs = M at *
  generalize s.vs = vs at *
  generalize HQ.wt (m.val.app f) 1 = w0 at *
  generalize hp0 : m.val.app f = p0 at *
  have svr : roL vs := by
    have := sro
    simp only [roL, aB] at this
    exact this.2.1
  have vrn := fun rn => renL_ro rn _ svr
  have vcl := cloL_ro (n := 1000) _ svr
  simp only [cE, eV, Cn] at *
  have b1 : ¬ s.k < 2 := by omega
  have b2 : ¬ 5 < s.k := by omega
  have b5 : s.k = 5 → ¬ s.w < 1 := fun h => by have := hwi h; omega
  have rw0 := F3 w0
  have lw : ∀ h : HQ, (hC h).length = 9 := fun h => rfl
  have tw : ∀ h : HQ, (hC h).take 9 = hC h := fun h => rfl
  have dw : ∀ h : HQ, (hC h).drop 9 = [] := fun h => rfl
  by_cases e5 : s.k = 5
  focus
    have b5 := b5 e5
    simp -implicitDefEqProofs [go_sem, slen, mlen, b1, b2, eq_true e5, b5]
  rotate_left
  focus
    simp -implicitDefEqProofs [go_sem, slen, mlen, b1, b2, eq_false e5]
  all_goals
    refine ag one ?_
    simp -implicitDefEqProofs [go_sem, slen, mlen, mtk]
    refine aC _ hap0 (by simp [go_sem, mro]) ?_
    simp -implicitDefEqProofs [go_sem]
    refine aa kh0 ?_
    simp -implicitDefEqProofs [go_sem, lw, tw, dw]
    refine aa kc ?_
    have k0 : 0 ≤ s.k := by omega
    have k7 : s.k < 7 := by omega
    have kn : s.k.toNat + 1 ≤ 7 := by omega
    have mrr := fun rn => renL_ro rn _ mro
    have mrc := cloL_ro (n := 10) _ mro
    have vrc := cloL_ro (n := 10) _ svr
    have hT1 : V.take 1 = [AV.agg (hC w0)] := by
      rw [List.take_one, List.head?_eq_getElem?, List.getElem?_eq_getElem (by omega), hV0]; rfl
    simp -implicitDefEqProofs [go_sem, slen, k0, k7, kn, ka]
    refine aj 10 (α := {i : Nat // i ≤ dX s.k}) (fun i => [(3, .ptr 0 0 0), (4, .ptr 1 0 0), (5, .ptr 2 0 0), (8, .ptr 3 0 0), (9, .own 9 9 0 (i.1 + 1)), (40, .int .i64 (dX s.k : Nat)), (41, .int .i64 i.1)])
      (fun i => [(1, .live 8 [.agg (.int .i64 s.k :: (vs ++ [.int .i64 s.w]))]), (2, .live 18 [.agg M]), (3, .live 3 [.agg (rC 1)]), (9, .live 9 (V.take (i.1 + 1)))]) (fun i => dX s.k - i.1) ⟨0, Nat.zero_le _⟩ [] (by simp) (fun _ _ _ _ h => h) (by simp) (by simp -implicitDefEqProofs [go_sem]) (by simp -implicitDefEqProofs [go_sem, hT1, mrr, mrc, vrn, vrc, renL_ro (nm []) _ rw0, cloL_ro (n := 10) _ rw0]) fun ⟨i, hi⟩ => ?_
    have hTl : (V.take (i + 1)).length = i + 1 := by rw [List.length_take]; omega
    have hTr : roL (V.take (i + 1)) := bB hVr
    by_cases a : i < dX s.k
    · have a1 : (i : Int) < (dX s.k : Nat) := by omega
      have es := wS i (by omega)
      have hi6 := qN k2 k5 a
      have g1 := hva (2 * i) (by omega)
      have g2 := hva (2 * i + 1) hi6
      have w1 : IntKind.i64.wrap (2 * (i : Int)) = 2 * (i : Int) := bO (by omega)
      have w2 : IntKind.i64.wrap (2 * (i : Int) + 1) = 2 * (i : Int) + 1 := bO (by omega)
      have t1 : (2 * (i : Int)).toNat = 2 * i := by omega
      have t2 : (2 * (i : Int) + 1).toNat = 2 * i + 1 := by omega
      have c1 : (0 : Int) ≤ 2 * (i : Int) := by omega
      have c2 : 2 * (i : Int) < 6 := by omega
      have c3 : (0 : Int) ≤ 2 * (i : Int) + 1 := by omega
      have c4 : 2 * (i : Int) + 1 < 6 := by omega
      have c5 : 0 < 8 - (1 + 2 * i) := by omega
      have c6 : 0 < 8 - (1 + (2 * i + 1)) := by omega
      have f1 := kfr (s.v (2 * i)) (hvi _ (by omega))
      have f2 := kfr (s.v (2 * i + 1)) (hvi _ hi6)
      have zat := dn (hvi (2 * i) (by omega)) (hvi (2 * i + 1) hi6)
      have kp := kap (au (s.v (2 * i)) (s.v (2 * i + 1))) zat
      rw [show (pc (au (s.v (2 * i)) (s.v (2 * i + 1)))).av = .agg (rC ((s.v (2 * i) : Rat) / 64) ++ rC ((s.v (2 * i + 1) : Rat) / 64)) from rfl] at kp
      have kq := kh (m.val.app (au (s.v (2 * i)) (s.v (2 * i + 1)))) (gG s i) (happ _ zat) (Dz hg i)
      have hsc : V.take (i + 1 + 1) = V.take (i + 1) ++ [.agg (hC (nT s m.val i))] := by
        rw [List.take_succ_eq_append_getElem (by omega), hVs i a]
      have hcw : s.k = 5 → i = 0 → ab Tryz.prog 158 [.int .i64 s.w, .int .i64 64] (.agg (rC (gG s i))) := fun h h0 => by
        have := kfr s.w (by have := hwi h; omega)
        rw [show gG s i = (s.w : Rat) / 64 from if_pos ⟨h, h0⟩]; exact this
      have hcw1 : ¬ (s.k = 5 ∧ i = 0) → gG s i = 1 := fun h => if_neg h
      rw [show HQ.wt (m.val.app (au (s.v (2 * i)) (s.v (2 * i + 1)))) (gG s i) = nT s m.val i from rfl] at kq
      have hTr1 : roL (V.take (i + 1 + 1)) := bB hVr
      generalize nT s m.val i = cp at *
      generalize m.val.app (au (s.v (2 * i)) (s.v (2 * i + 1))) = q at *
      generalize (s.v (2 * i) : Rat) / 64 = x at *
      generalize (s.v (2 * i + 1) : Rat) / 64 = y at *
      generalize gG s i = w at *
      have d3 : ∀ l : List AV, List.drop 3 (rC x ++ l) = l := fun l => rfl
      have d6 : List.drop 6 (rC x ++ rC y) = [] := rfl
      have key : (s.k = 5 ∧ i = 0) ∨ ¬ (s.k = 5 ∧ i = 0) := Classical.em _
      rcases key with hw0 | hw0
      focus
        have cw := hcw hw0.1 hw0.2
        have q5 := hw0.1
        have q0 := hw0.2
        simp -implicitDefEqProofs [go_sem, a1, a, slen, eq_true q5, eq_true q0]
        refine ag cw ?_
        simp -implicitDefEqProofs [go_sem]
      rotate_left
      focus
        have hww := hcw1 hw0
        subst hww
        clear hcw hcw1
        first
        | (have q0 : ¬ i = 0 := fun h => hw0 ⟨e5, h⟩
           simp -implicitDefEqProofs [go_sem, a1, a, slen, eq_true e5, eq_false q0])
        | simp -implicitDefEqProofs [go_sem, a1, a, slen, eq_false e5]
      all_goals
        simp -implicitDefEqProofs [go_sem, slen, mlen, mtk, w1, w2, t1, t2, c1, c2, c3, c4, c5, c6, g1, g2]
        refine aa f1 ?_
        simp -implicitDefEqProofs [go_sem, slen, mlen, mtk, w1, w2, t1, t2, c1, c2, c3, c4, c5, c6, g1, g2]
        refine aa f2 ?_
        simp -implicitDefEqProofs [go_sem, d3, d6]
        refine aC _ kp (by simp [go_sem, mro, aB]) ?_
        simp -implicitDefEqProofs [go_sem]
        refine aa kq ?_
        simp -implicitDefEqProofs [go_sem, lw, tw, dw]
        have e1 : i + 1 ≤ min (i + 1) V.length := by omega
        have e2 : ((i : Int) + 1 + 1) * 168 ≤ 70368744177664 := by omega
        have e3 : ((V.take (i + 1)).drop 0).take (i + 1) = V.take (i + 1) := by rw [List.drop_zero, List.take_take, Nat.min_self]
        refine ⟨e1, e2, ?_⟩
        have rr := renL_ro (nm [(9, 31)]) _ hTr
        have rc := cloL_ro (n := 10) _ hTr
        have rh := F3 cp
        have rr2 := renL_ro (nm [(9, 31)]) _ rh
        have rc2 := cloL_ro (n := 10) _ rh
        simp -implicitDefEqProofs [go_sem, es]
        exact ae ⟨i + 1, a⟩ (by simp only; omega) [(9, 31)] (by simp) (by simp [nm]) (by simp) (by simp -implicitDefEqProofs [go_sem, es]) (by simp -implicitDefEqProofs [go_sem, mrr, mrc, vrn, vrc, rr, rc, rr2, rc2, hsc, List.take_take])
    · have a1 : ¬ (i : Int) < (dX s.k : Nat) := by omega
      have hTV : V.take (i + 1) = V := List.take_of_length_le (by omega)
      have e1 : i + 1 ≤ V.length := by omega
      simp -implicitDefEqProofs [go_sem, a, a1, hTV, e1]
theorem jZ (m:MQ) (x y:Int) (hx : -9223372036854775808≤x∧x≤9223372036854775807) (hy : -9223372036854775808≤y∧y≤9223372036854775807) (hm:sz m.a≤1000∧sz m.b≤1000∧sz m.c≤1000∧sz m.d≤1000∧sz m.e≤1000∧sz m.f≤1000):ab Tryz.prog 65 [vP m,.int .i64 x,.int .i64 y] (eA (m.app (au x y))):=by
 have k1:=bS x 64 hx (by omega) (by omega)
 have k2:=bS y 64 hy (by omega) (by omega)
 rw [show ((64:Int):Rat)=64 from rfl] at k1 k2
 have z:=dn hx hy
 have k3:=qb m (au x y) (n:=1000) (by omega) hm (by omega)
 have ep:eA (au x y) = .agg (fC ((x:Rat) / 64)++fC ((y:Rat) / 64)):=rfl
 rw [ep] at k3
 have mro:=oX m
 have mlen:(lQ m).length=18:=rfl
 have mtk:(lQ m).take 18=lQ m:=rfl
 have hem:vP m = .agg (lQ m):=rfl
 rw [hem] at k3 ⊢
 refine Pg Tryz.func65 rfl [.cell 6 118] rfl (mT _) ?_
 generalize m.app (au x y)=q at *
 generalize (x:Rat) / 64=a at *
 generalize (y:Rat) / 64=b at *
 generalize lQ m=M at *
 simp only [co,bR] at *
 have l6:(eC q).length=6:=rfl
 have d6:List.drop 6 (eC q)=[]:=rfl
 simp -implicitDefEqProofs [go_sem,mlen,mtk]
 refine aa k1 ?_
 simp -implicitDefEqProofs [go_sem]
 refine aa k2 ?_
 simp -implicitDefEqProofs [go_sem,mlen,mtk]
 refine aC _ k3 (by simp [go_sem,mro,aB]) ?_
 simp -implicitDefEqProofs [go_sem,aS,l6,d6]
structure OkP (m:MQ) (tol:Rat) (f:PQ) (s:Sg):Prop where
 good:s.Good
 n1:s.k≠1
 n6:s.k≠6
 f1:f.sz≤1
 sz:∀h∈bQ f s m,h.sz≤51
 tr:Tr tol 51 14 (bQ f s m)
def DH (m:MQ) (tol:Rat):PQ→List Sg→Prop
 | _,[]=>True
 | f,s::r=>OkP m tol f s∧DH m tol (ea s) r
theorem wL {m:MQ} {tol:Rat}:∀ {f:PQ} {l:List Sg} {i:Nat} (h:i<l.length),DH m tol f l→OkP m tol (gU f (l.take i)) l[i]
 | f,s::r,0,_,h=>h.1
 | f,s::r,i+1,hi,h=>by
  have:=wL (i:=i) (by simpa using hi) h.2
  simpa [gU] using this
theorem xu {m:MQ} {tol:Rat} (f:PQ) {l:List Sg} {i:Nat} (h:i<l.length):bV m tol f (l.take (i+1))=bV m tol f (l.take i)++bN m tol (gU f (l.take i)) l[i]:=by
 rw [List.take_succ_eq_append_getElem h,kz]
theorem Ai (f:PQ) {l:List Sg} {i:Nat} (h:i<l.length):gU f (l.take (i+1))=ea l[i]:=by
 rw [List.take_succ_eq_append_getElem h,me]
theorem OkP.lines {m:MQ} {tol:Rat} {f:PQ} {s:Sg} (h:OkP m tol f s) (h0:0<tol):∃x,(vq (bQ f s m) tol).1=x::bN m tol f s∧(vq (bQ f s m) tol).2.2=0∧(bN m tol f s).length≤16384∧∀p∈bN m tol f s,p.sz≤102:=by
 have hk:=Gy h.sz fun _ _=>h.tr
 have hG:=h.tr.good.1
 unfold bN
 have e:vq (bQ f s m) tol=(((bQ f s m).headD hQ0).P::dq tol 14 (bQ f s m),cV tol 14 (bQ f s m),0):=by
  unfold vq
  rw [if_neg (fun h=>h hG),if_neg (by grind)]
 rw [e] at hk ⊢
 refine ⟨_,rfl,rfl,?_,fun p hp=>hk.2 p (List.mem_cons_of_mem _ hp)⟩
 have:=hk.1
 simp only [List.length_cons] at this
 simp only [List.drop_one,List.tail_cons]
 omega
theorem dP {m:MQ} {tol:Rat} (h0:0<tol):∀ {f:PQ} {l:List Sg},DH m tol f l→(bV m tol f l).length≤16384*l.length∧∀p∈bV m tol f l,p.sz≤102
 | f,[],_=>by simp [bV]
 | f,s::r,h=>by
  obtain ⟨h1,h2⟩:=dP h0 h.2
  obtain ⟨x,_,_,k1,k2⟩:=h.1.lines h0
  unfold bV
  refine ⟨by rw [List.length_append,List.length_cons]; omega,fun p hp=>?_⟩
  rcases List.mem_append.1 hp with hp|hp
  ·exact k2 p hp
  ·exact h2 p hp
theorem uo {m:MQ} {tol:Rat}:∀ {f:PQ} {l:List Sg} (i:Nat),DH m tol f l→DH m tol f (l.take i)
 | f,[],i,_=>by cases i<;>trivial
 | f,s::r,0,_=>trivial
 | f,s::r,i+1,h=>⟨h.1,uo i h.2⟩
def HJ (u:Sub):AV := .agg (pC u.f++[il u.l,.bool u.closed])
theorem sC (u:Sub) (m:MR) (tol:RQ) (hl:u.l.length≤12) (hf:u.f.sz≤1) (hO:DH m.val tol.val u.f u.l) (hm:m.In 6) (ht:tol.In 1024) (h0:0<tol.val):ab Tryz.prog 70 [HJ u,m.av,tol.av] (.tup [pL (bz (dE m.val tol.val u) u.closed),.int .i64 0]):=by
 obtain ⟨ux,uy,l,closed⟩:=u
 simp only at hl
 have hO:DH m.val tol.val (au ux uy) l:=hO
 have hmm:m.In 100000000:=⟨hm.a.mono,hm.b.mono,hm.c.mono,hm.d.mono,hm.e.mono,hm.f.mono⟩
 have hf':(au ux uy).sz≤1:=hf
 have k1:=mN m (pc (au ux uy)) hmm (cF (by omega))
 rw [bJ,show (pc (au ux uy)).av=pA (au ux uy) from rfl] at k1
 have zf:=nL hm (by omega) hf'
 have htf:=dP h0 hO
 have hraw:∀i,(m.val.app (au ux uy)::bV m.val tol.val (au ux uy) (l.take i)).length≤196700∧∀p∈(m.val.app (au ux uy)::bV m.val tol.val (au ux uy) (l.take i)),p.sz≤102:=fun i=>by
  have h1:=dP h0 (uo i hO)
  have h2:(l.take i).length≤12:=by rw [List.length_take]; omega
  refine ⟨by rw [List.length_cons]; omega,fun p hp=>?_⟩
  rcases List.mem_cons.1 hp with rfl|hp
  ·omega
  ·exact h1.2 p hp
 have hU:HJ ⟨ux,uy,l,closed⟩ = .agg (pC (au ux uy)++[.sl 8 false (l.map Sg.av),.bool closed]):=rfl
 have hR:dE m.val tol.val ⟨ux,uy,l,closed⟩=m.val.app (au ux uy)::bV m.val tol.val (au ux uy) l:=rfl
 rw [hU,hR]
 simp only
 obtain ⟨RW,hRW⟩:∃RW:Nat→List PQ,RW=fun i=>m.val.app (au ux uy)::bV m.val tol.val (au ux uy) (l.take i):=⟨_,rfl⟩
 obtain ⟨FR,hFR⟩:∃FR:Nat→PQ,FR=fun i=>gU (au ux uy) (l.take i):=⟨_,rfl⟩
 have hRe:m.val.app (au ux uy)::bV m.val tol.val (au ux uy) l=RW l.length:=by rw [hRW]; simp only [List.take_length]
 have hRs:∀i (h:i<l.length),RW (i+1)=RW i++bN m.val tol.val (FR i) l[i]:=fun i h=>by rw [hRW,hFR]; simp only; rw [xu _ h]; rfl
 have hFs:∀i (h:i<l.length),FR (i+1)=ea l[i]:=fun i h=>by rw [hFR]; simp only; rw [Ai _ h]
 have hP:∀i (h:i<l.length),OkP m.val tol.val (FR i) l[i]:=fun i h=>by rw [hFR]; exact wL h hO
 have hR0:RW 0=[m.val.app (au ux uy)]:=by rw [hRW]; simp only [List.take_zero,bV]
 have hF0:FR 0=au ux uy:=by rw [hFR]; simp only [List.take_zero,gU]
 have hRok:∀i,(RW i).length≤196700∧∀p∈RW i,p.sz≤102:=fun i=>by rw [hRW]; exact hraw i
 rw [hRe]
 have kof:=fun i (h:i<l.length)=>Bm (FR i) l[i] m (hP i h).f1 (hP i h).good (hP i h).n1 (hP i h).n6 hm
 have kcv:∀i (h:i<l.length),∃x,ab Tryz.prog 145 [qL (bQ (FR i) l[i] m.val),tol.av] (.tup [pL (x::bN m.val tol.val (FR i) l[i]),.int .i64 0]):=fun i h=>by
  obtain ⟨x,e1,e2,_,_⟩:=(hP i h).lines h0
  have hp:=hP i h
  have k:=tN ((bQ (FR i) l[i] m.val).map hc) tol (by rw [List.length_map,kH]; have:=ml l[i].k; omega) (fun h hh=>by
   obtain ⟨y,hy,rfl⟩:=List.mem_map.1 hh
   exact ox (hp.sz y hy)) ht (by rw [bU]; exact fun _ _=>hp.tr)
  rw [bU,KW,e1,e2] at k
  exact ⟨x,k⟩
 have kend:=fun i (h:i<l.length)=>Ar l[i] (hP i h).good (hP i h).n1 (hP i h).n6
 have htl:∀i (h:i<l.length),(bN m.val tol.val (FR i) l[i]).length≤16384:=fun i h=>by
  obtain ⟨x,_,_,k,_⟩:=(hP i h).lines h0
  exact k
 clear hRW hFR hP hraw htf hO hRe hR hU
 generalize au ux uy=f0 at *
 generalize m.val.app f0=p0 at *
 have hmav:m.av = .agg m.cs:=rfl
 have mro:=m.ro_cs
 have mlen:m.cs.length=18:=rfl
 have mtk:m.cs.take 18=m.cs:=rfl
 have htav:tol.av = .agg tol.cells:=rfl
 have tro:roL tol.cells:=by have:=yH tol; rw [htav] at this; simpa only [ro] using this
 have tlen:tol.cells.length=3:=rfl
 have ttk:tol.cells.take 3=tol.cells:=rfl
 simp only [hmav,htav] at *
 generalize m.cs=M at *
 generalize tol.cells=TC at *
 have hVr:=dN l
 have hVl:(l.map Sg.av).length=l.length:=by simp
 have hVg:∀i (h:i<l.length),bk (l.map Sg.av) (i:Int) = .agg l[i].cs:=fun i h=>ft h
 generalize l.map Sg.av=V at *
 refine ab.of_ca (by simp only [ro,roL]; exact ⟨li _,trivial,trivial⟩) (Cz Tryz.func70 rfl [.tmp 6,.tmp 7] rfl ?_)
 simp only [cE] at *
 have l6:∀p:PQ,(pC p).length=6:=fun p=>rfl
 have t6:∀p:PQ,(pC p).take 6=pC p:=fun p=>rfl
 have d6:∀p:PQ,(pC p).drop 6=[]:=fun p=>rfl
 simp -implicitDefEqProofs [go_sem,l6,t6,d6,mlen,mtk,tlen,ttk]
 refine ai _ k1 (by simp [go_sem,mro]) ?_
 simp -implicitDefEqProofs [go_sem,l6,t6,d6,mlen,mtk,tlen,ttk]
 have mrr:=fun rn=>renL_ro rn _ mro
 have mrc:=cloL_ro (n:=5) _ mro
 have vrr:=fun rn=>renL_ro rn _ hVr
 have vrc:=cloL_ro (n:=5) _ hVr
 have trr:=fun rn=>renL_ro rn _ tro
 have trc:=cloL_ro (n:=5) _ tro
 obtain ⟨G,hG⟩:∃G:Nat→List AV,G=fun i=>(RW i).map pA:=⟨_,rfl⟩
 have hGr:∀i,roL (G i):=fun i=>by rw [hG]; exact c8 _
 have hGl:∀i,(G i).length=(RW i).length:=fun i=>by rw [hG]; simp
 have hG0:G 0=[.agg (pC p0)]:=by rw [hG]; simp only [hR0]; rfl
 have hGs:∀i (h:i<l.length),G (i+1)=G i++(bN m.val tol.val (FR i) l[i]).map pA:=fun i h=>by rw [hG]; simp only [hRs i h,List.map_append]
 refine aj 5 (α:={i:Nat // i≤l.length}) (fun i=>[(3,.ptr 0 0 0),(4,.ptr 1 0 0),(5,.ptr 2 0 0),(8,.own 6 3 0 (G i.1).length),(9,.ptr 4 0 0),(23,.sl 8 false V),(24,.int .i64 l.length),(25,.int .i64 i.1)])
  (fun i=>[(0,.live 8 [.agg (pC f0++[.sl 8 false V,.bool closed])]),(1,.live 18 [.agg M]),(2,.live 3 [.agg TC]),(3,.live 6 (G i.1)),(4,.live 6 [.agg (pC (FR i.1))])]) (fun i=>l.length-i.1) ⟨0,Nat.zero_le _⟩ [] (by simp) (fun _ _ _ _ h=>h) (by simp) (by simp -implicitDefEqProofs [go_sem,hG0,hVl,vrr,vrc]) (by simp -implicitDefEqProofs [go_sem,hG0,hF0,mrr,mrc,vrr,vrc,trr,trc,bp,be]) fun ⟨i,hi⟩=>?_
 have hGri:=hGr i
 have hGli:=hGl i
 have hRi:=(hRok i).1
 by_cases a:i<l.length
 ·have a1:(i:Int)<l.length:=by omega
  have es:=wS i (by omega)
  have gi:=hVg i a
  have q1:=kof i a
  obtain ⟨x,q2⟩:=kcv i a
  have q3:=kend i a
  have hF1:=hFs i a
  have hG1:=hGs i a
  have htli:=htl i a
  have rql:=yG (bQ (FR i) l[i] m.val)
  have hTr:=c8 (bN m.val tol.val (FR i) l[i])
  have hTl:((bN m.val tol.val (FR i) l[i]).map pA).length=(bN m.val tol.val (FR i) l[i]).length:=by simp
  have u6:l[i].cs.length=8:=rfl
  have u7:l[i].cs.take 8=l[i].cs:=rfl
  have u8:l[i].cs.drop 8=[]:=rfl
  have u9:=l[i].ro_cs
  unfold Sg.av at q1 q3
  rw [show pL (x::bN m.val tol.val (FR i) l[i]) = .sl 6 false (.agg (pC x)::(bN m.val tol.val (FR i) l[i]).map pA) from rfl] at q2
  rw [←hF1] at q3
  generalize (bN m.val tol.val (FR i) l[i]).map pA=T at *
  generalize qL (bQ (FR i) l[i] m.val)=QL at *
  generalize (bN m.val tol.val (FR i) l[i]).length=tn at *
  generalize FR i=fi at *
  generalize l[i].cs=cs at *
  simp -implicitDefEqProofs [go_sem,a,a1,hVl,gi,u6,u7,u8,l6,t6,mlen,mtk]
  refine ai _ q1 (by simp [go_sem,u9,mro]) ?_
  simp -implicitDefEqProofs [go_sem,tlen,ttk]
  refine ai _ q2 (by simp [go_sem,rql,tro]) ?_
  simp -implicitDefEqProofs [go_sem,u6,u7,u8]
  refine ⟨by omega,by omega,?_⟩
  refine ai _ q3 (by simp [go_sem,u9]) ?_
  simp -implicitDefEqProofs [go_sem,l6,d6,es]
  exact ae ⟨i+1,a⟩ (by simp only; omega) [(3,6)] (by simp) (by simp [nm]) (by simp) (by simp -implicitDefEqProofs [go_sem,hG1,es,vrr,vrc]) (by simp -implicitDefEqProofs [go_sem,hG1,mrr,mrc,vrr,vrc,trr,trc,renL_ro (nm [(3,6)]) _ hGri,cloL_ro (n:=5) _ hGri,renL_ro (nm [(3,6)]) _ hTr,cloL_ro (n:=5) _ hTr,bp,be])
 have a1:¬(i:Int)<l.length:=by omega
 have hii:i=l.length:=by omega
 have hGe:G i=(RW i).map pA:=by rw [hG]
 have hv:∀p∈RW i,p.sz≤1000000:=fun p hp=>by have:=(hRok i).2 p hp; omega
 have hRL:RW l.length=RW i:=by rw [←hii]
 rw [hRL]
 simp -implicitDefEqProofs [go_sem,a1,hVl,hGli]
 generalize hL:RW i=L at *
 refine vH L (by omega) hv 3 5 (by omega) _ [(0,.live 8 [.agg (pC f0++[.sl 8 false V,.bool closed])])] _ (by simp -implicitDefEqProofs [go_sem,hGe]) (by simp -implicitDefEqProofs [go_sem,vrc,be]) (by simp -implicitDefEqProofs [go_sem]) fun f' n' h2 h0'=>?_
 have h0':=h0' _ List.mem_cons_self
 simp only at h0'
 generalize hC:aR L=C at *
 have hCl:C.length≤L.length:=by rw [←hC]; exact iS L
 have hWr:roL (C.map pA):=c8 _
 have hWl:(C.map pA).length=C.length:=by simp
 obtain ⟨W,hW⟩:∃W,W=C.map pA:=⟨_,rfl⟩
 rw [←hW] at h2 hWr hWl
 have hWg:∀j (h:j<C.length),W[j]'(by omega) = .agg (pC C[j]):=fun j h=>by subst hW; rw [List.getElem_map]; rfl
 have hWt:∀m,W.take m=(C.take m).map pA:=fun m=>by rw [hW,List.map_take]
 obtain ⟨Z,hZ⟩:∃Z,Z=bz L closed:=⟨_,rfl⟩
 rw [←hZ]
 simp -implicitDefEqProofs [go_sem]
 refine aj 5 (α:={p:Nat×Nat // p.1≤C.length∧p.1≤p.2∧(closed=true→Z=fX p.2 (C.take p.1))∧(closed=false→p.1=C.length)}) (fun p=>[(3,.ptr 0 0 0),(8,.own 6 3 0 p.1.1)])
  (fun p=>[(0,.live 8 [.agg (pC f0++[.sl 8 false V,.bool closed])]),(3,.live 6 W)]) (fun p=>p.1.1) ⟨(C.length,L.length),Nat.le_refl _,by omega,fun h=>by rw [hZ,List.take_length,←hC]; unfold bz; rw [if_pos h],fun _=>rfl⟩ [] (by simp) (fun _ _ _ _ h=>h) (by simp) (by simp -implicitDefEqProofs [go_sem]) (by simp -implicitDefEqProofs [go_sem,h0',h2,vrr,vrc,renL_ro (nm []) _ hWr,cloL_ro (n:=5) _ hWr,bp,be]) fun ⟨(m,g),hm,hmg,htr,hcf⟩=>?_
 simp only at hm hmg htr hcf
 have hlast:∀k,Wk (.tup [.sl 6 false (W.take k),.int .i64 0]) (.tup [pL (C.take k),.int .i64 0]):=fun k=>by rw [hWt]; exact Wk.refl _
 have dU:∀b:Bool,(pC f0++[AV.sl 8 false V,.bool b]).drop 7=[.bool b]:=fun b=>rfl
 cases closed
 ·have e:=hcf rfl
  subst e
  have hcl:Z=C.take C.length:=by rw [hZ,List.take_length]; unfold bz; rw [if_neg (by decide),hC]
  have wkm:=hlast C.length
  rw [←hcl] at wkm
  simp -implicitDefEqProofs [go_sem]
  refine az (by kernel_rfl) ?_
  simp -implicitDefEqProofs [go_sem,dU]
  refine ⟨by omega,bB hWr,?_⟩
  exact wkm
 have htr:=htr rfl
 have wkm:=hlast m
 by_cases c1:1<m
 ·obtain ⟨k,rfl⟩:∃k,m=k+1:=⟨m-1,by omega⟩
  have c2:(1:Int)<(k:Int)+1:=by omega
  have b0:0<W.length:=by omega
  have b1:k<W.length:=by omega
  have g0:=hWg 0 (by omega)
  have g1:=hWg k (by omega)
  have hC':∀p∈C,p.sz≤1000000:=fun p hp=>hv p (by rw [←hC] at hp; exact kG _ p hp)
  have z0:=hC' _ (List.getElem_mem (show 0<C.length by omega))
  have z1:=hC' _ (List.getElem_mem (show k<C.length by omega))
  have ksm:ab Tryz.prog 33 [.agg (pC (C[0]'(by omega))),.agg (pC (C[k]'(by omega)))] (.bool (decide (C[0]'(by omega)=C[k]'(by omega)))):=gc _ _ (by omega) (by omega)
  have w1:IntKind.i64.wrap (k:Int)=k:=by rw [bO (by omega)]
  have c3:(0:Int)<(k:Int)+1:=by omega
  have hk1:1≤k:=by omega
  have c4:(k:Int)<(k:Int)+1:=by omega
  have hkl:(k:Int)≤(k:Int)+1:=by omega
  have hkn:k≤W.length:=by omega
  by_cases e:C[0]'(by omega)=C[k]'(by omega)
  ·have hst:=nU (f:=g-1) hm c1 (by simpa using e)
   rw [show g-1+1=g by omega,Nat.add_sub_cancel] at hst
   rw [hst] at htr
   simp -implicitDefEqProofs [go_sem]
   refine az (by kernel_rfl) ?_
   simp -implicitDefEqProofs [go_sem,dU,c2,c3,c4,b0,b1,g0,g1,w1]
   refine aa ksm ?_
   simp -implicitDefEqProofs [go_sem,e,c2,c3,w1,hkl,hkn]
   exact ae ⟨(k,g-1),by omega,by omega,fun _=>htr,fun h=>by cases h⟩ (by simp only; omega) [] (by simp) (fun _ _ _ _ h=>h) (by simp) (by simp -implicitDefEqProofs [go_sem]) (by simp -implicitDefEqProofs [go_sem,vrr,vrc,renL_ro (nm []) _ hWr,cloL_ro (n:=5) _ hWr,bp,be])
  ·have hst:=ir (f:=g) hm (fun h=>e (by simpa using h.2 h.1))
   rw [hst] at htr
   rw [←htr] at wkm
   simp -implicitDefEqProofs [go_sem]
   refine az (by kernel_rfl) ?_
   simp -implicitDefEqProofs [go_sem,dU,c2,c3,c4,b0,b1,g0,g1,w1]
   refine aa ksm ?_
   simp -implicitDefEqProofs [go_sem,e,c2,c3,w1,hm]
   exact ⟨by omega,bB hWr,wkm⟩
 ·have c2:¬(1:Int)<(m:Int):=by omega
  have hst:=ir (f:=g) hm (fun h=>c1 h.1)
  rw [hst] at htr
  rw [←htr] at wkm
  simp -implicitDefEqProofs [go_sem]
  refine az (by kernel_rfl) ?_
  simp -implicitDefEqProofs [go_sem,dU,c2]
  exact ⟨by omega,bB hWr,wkm⟩
def Pn (m:MQ) (x y:Int):Prop:=Wi 64 (m.app (au x y)).x∧Wi 64 (m.app (au x y)).y
def Ps (m:MQ) (s:Sg):Prop:=Pn m (s.v 0) (s.v 1)∧Pn m (s.v 2) (s.v 3)∧Pn m (s.v 4) (s.v 5)
def fQ (m:MQ):Nat:=m.a.den*m.b.den*(m.c.den*m.d.den)*(m.e.den*m.f.den)
theorem vJ (x:Rat) {E:Nat} (h:x.den ∣ E):∃z:Int,x*(E:Rat)=z:=Bu x h
theorem Ct {a c e:Rat} {D:Nat} (x y w:Int) (ha:a.den ∣ D) (hc:c.den ∣ D) (he:e.den ∣ D) {W:Rat} (hW:W*64=w):∃z:Int,((a*((x:Rat) / 64)+c*((y:Rat) / 64)+e)*W)*((4096*D:Nat):Rat)=z:=by
 obtain ⟨za,ha⟩:=vJ a ha
 obtain ⟨zc,hc⟩:=vJ c hc
 obtain ⟨ze,he⟩:=vJ e he
 refine ⟨(za*x+zc*y+64*ze)*w,?_⟩
 have e1:((4096*D:Nat):Rat)=4096*(D:Rat):=by norm_cast
 have e2:(((za*x+zc*y+64*ze)*w:Int):Rat)=((za:Rat)*x+(zc:Rat)*y+64*(ze:Rat))*(w:Rat):=by norm_cast
 rw [e1,e2,←ha,←hc,←he,←hW]
 grind
theorem Cy (m:MQ):m.a.den ∣ fQ m∧m.b.den ∣ fQ m∧m.c.den ∣ fQ m∧m.d.den ∣ fQ m∧m.e.den ∣ fQ m∧m.f.den ∣ fQ m:=by
 unfold fQ
 have k1:m.a.den*m.b.den ∣ m.a.den*m.b.den*(m.c.den*m.d.den)*(m.e.den*m.f.den):=Nat.dvd_trans (Nat.dvd_mul_right _ _) (Nat.dvd_mul_right _ _)
 have k2:m.c.den*m.d.den ∣ m.a.den*m.b.den*(m.c.den*m.d.den)*(m.e.den*m.f.den):=Nat.dvd_trans (Nat.dvd_mul_left _ _) (Nat.dvd_mul_right _ _)
 have k3:m.e.den*m.f.den ∣ m.a.den*m.b.den*(m.c.den*m.d.den)*(m.e.den*m.f.den):=Nat.dvd_mul_left _ _
 exact ⟨Nat.dvd_trans (Nat.dvd_mul_right _ _) k1,Nat.dvd_trans (Nat.dvd_mul_left _ _) k1,Nat.dvd_trans (Nat.dvd_mul_right _ _) k2,Nat.dvd_trans (Nat.dvd_mul_left _ _) k2,Nat.dvd_trans (Nat.dvd_mul_right _ _) k3,Nat.dvd_trans (Nat.dvd_mul_left _ _) k3⟩
theorem CB (m:MQ):0<fQ m:=by
 unfold fQ
 exact Nat.mul_pos (Nat.mul_pos (Nat.mul_pos m.a.den_pos m.b.den_pos) (Nat.mul_pos m.c.den_pos m.d.den_pos)) (Nat.mul_pos m.e.den_pos m.f.den_pos)
theorem EC {m:MQ} (hm:sz m.a≤6∧sz m.b≤6∧sz m.c≤6∧sz m.d≤6∧sz m.e≤6∧sz m.f≤6):nl (fQ m)≤36:=by
 have h1:=aZ (m.a.den*m.b.den*(m.c.den*m.d.den)) (m.e.den*m.f.den)
 have h2:=aZ (m.a.den*m.b.den) (m.c.den*m.d.den)
 have h3:=aZ m.a.den m.b.den
 have h4:=aZ m.c.den m.d.den
 have h5:=aZ m.e.den m.f.den
 have k1:=a9 m.a
 have k2:=a9 m.b
 have k3:=a9 m.c
 have k4:=a9 m.d
 have k5:=a9 m.e
 have k6:=a9 m.f
 unfold fQ
 omega
theorem Gc {m:MQ} {x y w:Int} {W:Rat} (hW:W*64=w):Pz (4096*fQ m) (HQ.wt (m.app (au x y)) W):=by
 obtain ⟨da,db,dc,dd,de,df⟩:=Cy m
 refine ⟨Ct x y w da dc de hW,Ct x y w db dd df hW,?_⟩
 refine ⟨w*(64*fQ m:Nat),?_⟩
 have e1:((4096*fQ m:Nat):Rat)=4096*(fQ m:Rat):=by norm_cast
 have e2:((w*(64*fQ m:Nat):Int):Rat)=(w:Rat)*(64*(fQ m:Rat)):=by norm_cast
 show W*((4096*fQ m:Nat):Rat)=_
 rw [e1,e2,←hW]
 grind
theorem DZ {s:Sg} (hg:s.Good) (i:Nat):(∃w:Int,gG s i*64=w)∧1 / 64≤gG s i∧gG s i≤64:=by
 unfold gG
 split
 ·rename_i h
  have hw:=hg.w
  rw [if_pos h.1] at hw
  refine ⟨⟨s.w,by grind⟩,?_,?_⟩
  ·have:(1:Rat)≤(s.w:Rat):=by exact_mod_cast hw.1
   grind
  ·have h2:(s.w:Rat)≤((4096:Int):Rat):=Rat.intCast_le_intCast.2 hw.2
   have e:((4096:Int):Rat)=4096:=rfl
   grind
 ·exact ⟨⟨64,by grind⟩,by grind,by grind⟩
theorem Gb {p:PQ} {W:Rat} (hx:Wi 64 p.x) (hy:Wi 64 p.y) (h1:1 / 64≤W) (h2:W≤64):Bx (HQ.wt p W):=by
 obtain ⟨x1,x2⟩:=hx
 obtain ⟨y1,y2⟩:=hy
 have hw:0≤W:=by grind
 have:=Rat.mul_nonneg (show 0≤64-p.x by grind) hw
 have:=Rat.mul_nonneg (show 0≤64+p.x by grind) hw
 have:=Rat.mul_nonneg (show 0≤64-p.y by grind) hw
 have:=Rat.mul_nonneg (show 0≤64+p.y by grind) hw
 exact ⟨⟨by unfold HQ.wt; simp only; grind,by unfold HQ.wt; simp only; grind⟩,⟨by unfold HQ.wt; simp only; grind,by unfold HQ.wt; simp only; grind⟩,h1⟩
theorem KU {m:MQ} {s:Sg} (h:Ps m s) {i:Nat} (hi:i≤2):Pn m (s.v (2*i)) (s.v (2*i+1)):=by
 obtain ⟨h0,h1,h2⟩:=h
 rcases (by omega:i=0∨i=1∨i=2) with rfl|rfl|rfl
 ·exact h0
 ·exact h1
 ·exact h2
theorem Hf {m:MQ} {tol:Rat} {x y:Int} {s:Sg} (hm:sz m.a≤6∧sz m.b≤6∧sz m.c≤6∧sz m.d≤6∧sz m.e≤6∧sz m.f≤6) (ht:1 / 16≤tol) (hg:s.Good) (h1:s.k≠1) (h6:s.k≠6) (hf:Pn m x y) (hz:(au x y).sz≤1) (hs:Ps m s):OkP m tol (au x y) s:=by
 have k2:2≤s.k:=by have:=hg.k1; omega
 have k5:s.k≤5:=by have:=hg.k6; omega
 have hall:∀h∈bQ (au x y) s m,Pz (4096*fQ m) h∧Bx h∧h.w≤64:=fun h hh=>by
  unfold bQ at hh
  rcases List.mem_cons.1 hh with rfl|hh
  ·exact ⟨Gc (w:=64) (by grind),Gb hf.1 hf.2 (by grind) (by grind),by unfold HQ.wt; simp only; grind⟩
  ·obtain ⟨i,hi,rfl⟩:=List.mem_map.1 hh
   have hi:=List.mem_range.1 hi
   obtain ⟨⟨w,hw⟩,w1,w2⟩:=DZ hg i
   have hp:=KU hs (i:=i) (by have:=ml s.k; omega)
   exact ⟨Gc hw,Gb hp.1 hp.2 w1 w2,w2⟩
 have hlen:=kH (au x y) s m
 have hpl:=ml s.k
 have hp1:1≤dX s.k:=by
  rcases (by omega:s.k=2∨s.k=3∨s.k=4∨s.k=5) with h|h|h|h<;>rw [h]<;>decide
 have hG:bX (bQ (au x y) s m):=⟨fun h hh=>by have:=(hall h hh).2.1.w; grind,by omega,by omega⟩
 have hE:0<4096*fQ m:=by have:=CB m; omega
 have hn:nl (8 ^ 14*(4096*fQ m))+1≤51:=by
  have a1:=aZ (8 ^ 14) (4096*fQ m)
  have a2:=aZ 4096 (fQ m)
  have a3:nl (8 ^ 14)≤1:=oO (by omega)
  have a4:nl 4096≤1:=oO (by omega)
  have a5:=EC hm
  omega
 have hT:=DC (tol:=tol) (by grind) 14 (JU hG (fun h hh=>(hall h hh).2.1) (fun h hh=>(hall h hh).2.2)) (by grind) (by decide +kernel) hE (fun h hh=>(hall h hh).1) (fun h hh=>(hall h hh).2.2) hn
 exact ⟨hg,h1,h6,hz,hT.good.2,hT⟩
theorem D4 {m:MQ} {s:Sg} (hg:s.Good) (hs:Ps m s):∃x y:Int,ea s=au x y∧Pn m x y∧(au x y).sz≤1:=by
 unfold ea
 split
 ·exact ⟨_,_,rfl,hs.1,dn (hg.i64 (by omega)) (hg.i64 (by omega))⟩
 ·split
  ·exact ⟨_,_,rfl,hs.2.2,dn (hg.i64 (by omega)) (hg.i64 (by omega))⟩
  ·exact ⟨_,_,rfl,hs.2.1,dn (hg.i64 (by omega)) (hg.i64 (by omega))⟩
theorem CU {m:MQ} {tol:Rat} (hm:sz m.a≤6∧sz m.b≤6∧sz m.c≤6∧sz m.d≤6∧sz m.e≤6∧sz m.f≤6) (ht:1 / 16≤tol):∀(l:List Sg) (x y:Int),Pn m x y→(au x y).sz≤1→(∀s∈l,s.Good∧s.k≠1∧s.k≠6∧Ps m s)→DH m tol (au x y) l
 | [],_,_,_,_,_=>trivial
 | s::r,x,y,h1,h2,h3=>by
  obtain ⟨g,k1,k6,hs⟩:=h3 s (by simp)
  obtain ⟨u,v,e,e1,e2⟩:=D4 g hs
  refine ⟨Hf hm ht g k1 k6 h1 h2 hs,?_⟩
  rw [e]
  exact CU hm ht r u v e1 e2 fun z hz=>h3 z (by simp [hz])
structure CutL (R:Int→Int→Prop) (S:Sg→Prop) (n:Nat) (c:Cut):Prop where
 done:∀u∈c.done,R u.x u.y∧u.l.length≤n∧∀s∈u.l,S s
 cur:R c.cur.x c.cur.y∧c.cur.l.length≤n∧∀s∈c.cur.l,S s
section
variable {R:Int→Int→Prop} {S:Sg→Prop}
theorem CutL.step {n:Nat} {c:Cut} {s:Sg} (h:CutL R S n c) (hr:s.k=1→R (s.v 0) (s.v 1)) (hs:s.k≠1→s.k≠6→S s):CutL R S (n+1) (c.step s):=by
 obtain ⟨h1,h2,h4,h5⟩:=h
 have hd:∀u∈c.done,R u.x u.y∧u.l.length≤n+1∧∀s∈u.l,S s:=fun u hu=>by
  obtain ⟨a,c,d⟩:=h1 u hu
  exact ⟨a,by omega,d⟩
 unfold Cut.step
 split
 ·rename_i k1
  refine ⟨fun u hu=>?_,hr k1,Nat.zero_le _,fun s hs=>by cases hs⟩
  rcases List.mem_append.1 hu with hu|hu
  ·exact hd u hu
  ·split at hu
   ·rw [List.mem_singleton] at hu; subst hu; exact ⟨h2,by omega,h5⟩
   ·cases hu
 ·split
  ·refine ⟨fun u hu=>?_,h2,Nat.zero_le _,fun s hs=>by cases hs⟩
   rcases List.mem_append.1 hu with hu|hu
   ·exact hd u hu
   ·rw [List.mem_singleton] at hu; subst hu; exact ⟨h2,by simp only; omega,h5⟩
  ·rename_i k1 k6
   refine ⟨hd,h2,by simp; omega,fun z hz=>?_⟩
   rcases List.mem_append.1 hz with hz|hz
   ·exact h5 z hz
   ·rw [List.mem_singleton] at hz; subst hz; exact hs k1 k6
theorem CutL.fold:∀(l:List Sg) (c:Cut) (n:Nat),CutL R S n c→(∀s∈l,(s.k=1→R (s.v 0) (s.v 1))∧(s.k≠1→s.k≠6→S s))→CutL R S (n+l.length) (l.foldl Cut.step c)
 | [],c,n,h,_=>h
 | s::l,c,n,h,hl=>by
  have:=CutL.fold l (c.step s) (n+1) (h.step (hl s (by simp)).1 (hl s (by simp)).2) fun x hx=>hl x (by simp [hx])
  rwa [List.length_cons,show n+(l.length+1)=n+1+l.length by omega]
theorem xN {l:List Sg} (h0:R 0 0) (h:∀s∈l,(s.k=1→R (s.v 0) (s.v 1))∧(s.k≠1→s.k≠6→S s)) (i:Nat):CutL R S (l.take i).length (cC (l.take i)):=by
 have:=CutL.fold (l.take i) iN 0 ⟨fun u hu=>(by cases hu),h0,Nat.le_refl _,fun s hs=>(by cases hs)⟩ fun s hs=>h s (List.mem_of_mem_take hs)
 rwa [Nat.zero_add] at this
theorem CutL.all {n:Nat} {c:Cut} (h:CutL R S n c):∀u∈c.all,R u.x u.y∧u.l.length≤n∧∀s∈u.l,S s:=fun u hu=>by
 unfold Cut.all at hu
 rcases List.mem_append.1 hu with hu|hu
 ·exact h.done u hu
 ·split at hu
  ·rw [List.mem_singleton] at hu; subst hu; exact h.cur
  ·cases hu
end
structure OkS (m:MQ) (tol:Rat) (u:Sub):Prop where
 f1:u.f.sz≤1
 len:u.l.length≤12
 ok:DH m tol u.f u.l
theorem jx {m:MQ} {tol:Rat} {l:List Sg} (hm:sz m.a≤6∧sz m.b≤6∧sz m.c≤6∧sz m.d≤6∧sz m.e≤6∧sz m.f≤6) (ht:1 / 16≤tol) (hl:l.length≤12) (hG:bL l) (hs:∀s∈l,Ps m s) (i:Nat) :
 (∀b,OkS m tol ⟨(cC (l.take i)).cur.x,(cC (l.take i)).cur.y,(cC (l.take i)).cur.l,b⟩)∧∀u∈(cC (l.take i)).all,OkS m tol u:=by
 have h00:Pn m 0 0∧(au 0 0).sz≤1:=by
  have hne:=hG.1
  obtain ⟨a,r,rfl⟩:∃a r,l=a::r:=by
   cases l with
   | nil=>exact absurd rfl hne
   | cons a r=>exact ⟨a,r,rfl⟩
  have hk:=hG.2.2.1 a rfl
  have hg:=hG.2.2.2.1 a (by simp)
  have c2:fp a.k=2:=by rw [hk]; rfl
  have v4:=(hg.v 4 (by omega)).2.2 (by omega)
  have v5:=(hg.v 5 (by omega)).2.2 (by omega)
  have hp:=(hs a (by simp)).2.2
  rw [v4,v5] at hp
  exact ⟨hp,dn (by omega) (by omega)⟩
 have hc:=xN (R:=fun x y=>Pn m x y∧(au x y).sz≤1) (S:=fun s=>s.Good∧s.k≠1∧s.k≠6∧Ps m s) (l:=l) h00 (fun s h=>by
  have g:=hG.2.2.2.1 s h
  exact ⟨fun _=>⟨(hs s h).1,dn (g.i64 (by omega)) (g.i64 (by omega))⟩,fun a b=>⟨g,a,b,hs s h⟩⟩) i
 have hlen:(l.take i).length≤12:=by rw [List.length_take]; omega
 have key:∀(x y:Int) (L:List Sg) (b:Bool),(Pn m x y∧(au x y).sz≤1)→L.length≤(l.take i).length→(∀s∈L,s.Good∧s.k≠1∧s.k≠6∧Ps m s)→OkS m tol ⟨x,y,L,b⟩:=fun x y L b h1 h2 h3=>⟨h1.2,by simp only; omega,CU hm ht L x y h1.1 h1.2 h3⟩
 refine ⟨fun b=>key _ _ _ b hc.cur.1 hc.cur.2.1 hc.cur.2.2,fun u hu=>?_⟩
 obtain ⟨h1,h2,h3⟩:=hc.all u hu
 exact key u.x u.y u.l u.closed h1 h2 h3
def apart:List PQ→Prop
 | a::b::r=>a≠b∧apart (b::r)
 | _=>True
section
variable {m:PQ→PQ} (hm:∀p q,m p=m q→p=q)
include hm
end
theorem AL {m:MQ} {tol:Rat} {f:PQ} {s:Sg} (h2:s.k=2) (h0:0<tol):bN m tol f s=[m.app (ea s)]:=by
 have e:bQ f s m=[HQ.wt (m.app f) 1,HQ.wt (m.app (ea s)) 1]:=by
  unfold bQ nT gG ea
  rw [h2]
  rfl
 have p1:∀p:PQ,(HQ.wt p 1).P=p:=fun p=>by
  unfold HQ.P HQ.wt
  exact PQ.ext (by simp only; grind) (by simp only; grind)
 have hG:bX (bQ f s m):=by
  rw [e]
  refine ⟨fun h hh=>?_,by simp,by simp⟩
  simp only [List.mem_cons,List.not_mem_nil,or_false] at hh
  rcases hh with rfl|rfl<;>(unfold HQ.wt; simp only; grind)
 have hT:0≤tol*tol:=Rat.mul_nonneg (by grind) (by grind)
 have hF:cY (bQ f s m) tol:=by
  rw [e]
  intro h hh
  simp only [List.mem_cons,List.not_mem_nil,or_false] at hh
  show mX _ (HQ.wt (m.app f) 1).P (HQ.wt (m.app (ea s)) 1).P≤_
  rw [p1,p1]
  rcases hh with rfl|rfl
  ·rw [p1]; exact ul.1 (kV _ _ hT)
  ·rw [p1]; exact ul.1 (kW _ _ hT)
 unfold bN vq
 rw [if_neg (fun h=>h hG),if_neg (by grind)]
 have:dq tol 14 (bQ f s m)=[((bQ f s m).getLastD hQ0).P]:=by rw [dq,if_pos hF]
 rw [this,e]
 show [(HQ.wt (m.app (ea s)) 1).P]=_
 rw [p1]
theorem pt {m:MQ} {tol:Rat} (h0:0<tol):∀(f:PQ) (l:List Sg),(∀s∈l,s.k=2)→bV m tol f l=l.map fun s=>m.app (ea s)
 | f,[],_=>rfl
 | f,s::r,h=>by
  unfold bV
  rw [AL (h s (by simp)) h0,pt h0 (ea s) r fun x hx=>h x (by simp [hx])]; rfl
def cN:MQ:=⟨1,0,0,1,0,0⟩
theorem nC (p:PQ):cN.app p=p:=by
 unfold MQ.app cN
 exact PQ.ext (by simp only; grind) (by simp only; grind)
theorem CO {m:MQ} {tol:Rat} {f:PQ} {s:Sg} (h0:0<tol) (h2:s.k=2) (hg:s.Good) (hf:f.sz≤1) (happ:∀q:PQ,q.sz≤1→(m.app q).sz≤25):OkP m tol f s:=by
 have e:bQ f s m=[HQ.wt (m.app f) 1,HQ.wt (m.app (ea s)) 1]:=by
  unfold bQ nT gG ea
  rw [h2]
  rfl
 have he:(ea s).sz≤1:=by
  unfold ea
  rw [if_pos h2]
  exact dn (hg.i64 (by omega)) (hg.i64 (by omega))
 have p1:∀p:PQ,(HQ.wt p 1).P=p:=fun p=>by
  unfold HQ.P HQ.wt
  exact PQ.ext (by simp only; grind) (by simp only; grind)
 have hsz:∀h∈bQ f s m,h.sz≤51:=fun h hh=>by
  rw [e] at hh
  simp only [List.mem_cons,List.not_mem_nil,or_false] at hh
  have hw:=iF
  rcases hh with rfl|rfl
  ·have:=F9 (p:=m.app f) (w:=1) (n:=25) (happ f hf) (by omega); omega
  ·have:=F9 (p:=m.app (ea s)) (w:=1) (n:=25) (happ _ he) (by omega); omega
 have hG:bX (bQ f s m):=by
  rw [e]
  refine ⟨fun h hh=>?_,by simp,by simp⟩
  simp only [List.mem_cons,List.not_mem_nil,or_false] at hh
  rcases hh with rfl|rfl<;>(unfold HQ.wt; simp only; grind)
 have hT:0≤tol*tol:=Rat.mul_nonneg (by grind) (by grind)
 have hF:cY (bQ f s m) tol:=by
  rw [e]
  intro h hh
  simp only [List.mem_cons,List.not_mem_nil,or_false] at hh
  show mX _ (HQ.wt (m.app f) 1).P (HQ.wt (m.app (ea s)) 1).P≤_
  rw [p1,p1]
  rcases hh with rfl|rfl
  ·rw [p1]; exact ul.1 (kV _ _ hT)
  ·rw [p1]; exact ul.1 (kW _ _ hT)
 exact ⟨hg,by omega,by omega,hf,hsz,⟨hG,hsz⟩,fun h=>absurd hF h⟩
theorem oQ {m:MQ} {tol:Rat} (h0:0<tol) (happ:∀q:PQ,q.sz≤1→(m.app q).sz≤25):∀(l:List Sg) (f:PQ),f.sz≤1→(∀s∈l,s.Good∧s.k=2)→DH m tol f l
 | [],_,_,_=>trivial
 | s::r,f,hf,h=>by
  obtain ⟨g,k2⟩:=h s (by simp)
  refine ⟨CO h0 k2 g hf happ,oQ h0 happ r _ ?_ fun x hx=>h x (by simp [hx])⟩
  unfold ea
  rw [if_pos k2]
  exact dn (g.i64 (by omega)) (g.i64 (by omega))
theorem CS {m:MQ} {tol:Rat} {l:List Sg} (h0:0<tol) (happ:∀q:PQ,q.sz≤1→(m.app q).sz≤25) (hl:l.length≤12) (hG:bL l) (hk:∀s∈l,s.k=1∨s.k=2∨s.k=6) (i:Nat) :
 (∀b,OkS m tol ⟨(cC (l.take i)).cur.x,(cC (l.take i)).cur.y,(cC (l.take i)).cur.l,b⟩)∧∀u∈(cC (l.take i)).all,OkS m tol u∧∀s∈u.l,s.k=2:=by
 have hc:=xN (R:=fun x y=>(au x y).sz≤1) (S:=fun s=>s.Good∧s.k=2) (l:=l) (dn (by omega) (by omega)) (fun s h=>by
  have g:=hG.2.2.2.1 s h
  exact ⟨fun _=>dn (g.i64 (by omega)) (g.i64 (by omega)),fun a b=>⟨g,by rcases hk s h with h|h|h<;>omega⟩⟩) i
 have hlen:(l.take i).length≤12:=by rw [List.length_take]; omega
 refine ⟨fun b=>⟨hc.cur.1,by have:=hc.cur.2.1; simp only; omega,oQ h0 happ _ _ hc.cur.1 hc.cur.2.2⟩,fun u hu=>?_⟩
 obtain ⟨h1,h2,h3⟩:=hc.all u hu
 exact ⟨⟨h1,by omega,oQ h0 happ _ _ h1 h3⟩,fun s hs=>(h3 s hs).2⟩
theorem YA.of_fresh {P:Program} {id:Nat} {args:List AV} {f:Nat→BS} {n:Nat} {K:AV→(Nat→BS)→Nat→Prop} (h:(∀j,f j = .fresh↔n≤j)→YA P id args f n K):YA P id args f n K :=
 fun c vs l h1 h2 h3 h4 h5=>h h2 c vs l h1 h2 h3 h4 h5
theorem CA.pad {P:Program} {g:FuncId} {args:List AV} {f:Nat→BS} {n:Nat} {K:AV→(Nat→BS)→Nat→Prop} (N:Nat) (h:CA P g args f n fun r f' n'=>n'≤N∧K r (dB N f') N):CA P g args f n K:=by
 intro c vs h1 h2 h3
 refine (h c vs h1 h2 h3).mono fun v w' ⟨c',r,f',n',q1,⟨q0,q2⟩,q3,q4,q5,q6,q7⟩=>?_
 exact ⟨c'.past N,r,_,N,q1,q2,q3.past fun j hj=>(q7 j).2 (by omega),q4.keep (Stp.past c' N) q3.shut,q5.trans (Stp.past c' N),by omega,iT fun j hj=>(q7 j).2 (by omega)⟩
mutual
theorem GC (g:Nat) (R:List AV):∀a:AV,ro a→ql g R a=a
 | .ptr _ _ _,h=>by simp only [ro] at h
 | .agg cs,h=>by simp only [ro] at h; simp only [ql,frdL_ro g R cs h]
 | .tup cs,h=>by simp only [ro] at h; simp only [ql,frdL_ro g R cs h]
 | .fn _ fs cap,h=>by simp only [ro] at h; simp only [ql,frdL_ro g R fs h.1,frdL_ro g R cap h.2]
 | .any,_=>rfl
 | .bool _,_=>rfl
 | .int _ _,_=>rfl
 | .str _,_=>rfl
 | .sl _ _ _,_=>rfl
 | .own _ _ _ _,_=>rfl
 | .rp _,_=>rfl
 | .yld _,_=>rfl
 | .mp _,_=>rfl
 | .nilp,_=>rfl
theorem frdL_ro (g:Nat) (R:List AV):∀l:List AV,roL l→frdL g R l=l
 | [],_=>rfl
 | a::l,h=>by simp only [roL] at h; simp only [frdL,GC g R a h.1,frdL_ro g R l h.2]
end
open Go Go.Proofs
set_option linter.unusedSimpArgs false
set_option linter.unusedVariables false
set_option maxRecDepth 20000
theorem tS {α:Type} {g:α→AV} {l:List α} {i:Nat} (h:i<l.length):bk (l.map g) (i:Int)=g l[i]:=by
 unfold bk
 rw [Int.toNat_natCast,List.getD_eq_getElem?_getD,List.getElem?_map,List.getElem?_eq_getElem h]; rfl
@[go_sem] theorem aV (n sz id:Nat) (l:List AV) (r:List (Nat×BS)) (j:Nat):hp n (dZ sz id l++r) j=if j=id∧l≠[] then .live sz l else hp n r j:=by
 by_cases h:l=[]
 ·subst h; simp [dZ]
 ·rw [aJ h]
  simp only [List.cons_append,List.nil_append,hp,ar,h,ne_eq,not_false_eq_true,and_true]
mutual
theorem Hq {rn rm:Nat→Nat} {n:Nat} (h:∀id,id<n→rn id=rm id):∀a:AV,clo n a→ren rn a=ren rm a
 | .own _ id _ _,k=>by simp only [clo] at k; simp only [ren,h id k]
 | .ptr id _ _,k=>by simp only [clo] at k; simp only [ren,h id k]
 | .agg cs,k=>by simp only [clo] at k; simp only [ren,renL_cg h cs k]
 | .tup cs,k=>by simp only [clo] at k; simp only [ren,renL_cg h cs k]
 | .sl _ _ l,k=>by simp only [clo] at k; simp only [ren,renL_cg h l k]
 | .rp cs,k=>by simp only [clo] at k; simp only [ren,renL_cg h cs k]
 | .fn _ fs cap,k=>by simp only [clo] at k; simp only [ren,renL_cg h fs k.1,renL_cg h cap k.2]
 | .yld id,k=>by simp only [clo] at k; simp only [ren,h id k]
 | .mp id,k=>by simp only [clo] at k; simp only [ren,h id k]
 | .any,_=>rfl
 | .bool _,_=>rfl
 | .int _ _,_=>rfl
 | .str _,_=>rfl
 | .nilp,_=>rfl
theorem renL_cg {rn rm:Nat→Nat} {n:Nat} (h:∀id,id<n→rn id=rm id):∀l:List AV,cloL n l→renL rn l=renL rm l
 | [],_=>rfl
 | a::l,k=>by simp only [cloL] at k; simp only [renL,Hq h a k.1,renL_cg h l k.2]
end
theorem yz {rn rm:Nat→Nat} {ne n:Nat} (h:∀id,id<n→rn id=rm id) {p:Nat×BS} (hc:dJ ne n p):gu rn p.2=gu rm p.2:=by
 obtain ⟨j,b⟩:=p
 cases b with
 | live sz l=>simp only [gu,BS.live.injEq,true_and]; exact renL_cg h l hc
 | obj o t=>rfl
 | fresh=>rfl
 | dead=>rfl
theorem pY {ne n m:Nat} (h:n≤m) {p:Nat×BS} (hc:dJ ne n p):dJ ne m p:=by
 obtain ⟨j,b⟩:=p
 cases b with
 | live sz l=>exact cloL_mono h l hc
 | obj o t=>exact hc
 | fresh=>exact hc
 | dead=>trivial
def Ab (ne:Nat) (fr W:List AV) (H:List (Nat×BS)):List (Nat×BS):=(ne+1,.live 8 [.agg (fr++[b9 8 (ne+2) W,.bool false])])::(dZ 8 (ne+2) W++H)
theorem Ez {ne N:Nat} {fr W:List AV} {H:List (Nat×BS)} (h1:∀p∈H,∀N,hp N H p.1=p.2) (h2:∀p∈H,p.1<ne+1∧dJ ne (ne+1) p) :
 hp N (Ab ne fr W H) (ne+1) = .live 8 [.agg (fr++[b9 8 (ne+2) W,.bool false])]∧(W≠[]→hp N (Ab ne fr W H) (ne+2) = .live 8 W)∧lG ne (ne+3) ne H ne (hp N (Ab ne fr W H)):=by
 refine ⟨by unfold Ab; rw [js,ah],fun h=>by unfold Ab; rw [js,ac _ _ _ (by omega),aV]; simp [h],?_⟩
 unfold lG
 rw [EO]
 refine ⟨fun p _ q _ h=>h,fun p hp'=>?_⟩
 have a:=(h2 p hp').1
 refine ⟨by omega,?_,pY (by omega) (h2 p hp').2⟩
 rw [iB]
 unfold Ab
 rw [js]
 simp only [id]
 rw [ac _ _ _ (by omega),aV,if_neg (by omega)]
 exact h1 p hp' N
theorem gR {ne a c b:Nat} {fr W:List AV} {H:List (Nat×BS)} {f:Nat→BS} (hfr:roL fr) (hW:roL W) (hH:lG ne (ne+3) ne H a f) (h2:∀p∈H,p.1<ne+1∧dJ ne (ne+1) p) (hc:f c = .live 8 [.agg (fr++[b9 8 b W,.bool false])]) (hca:a≠c) (hcn:ne≤c) (hb:W≠[]→f b = .live 8 W∧b≠a∧b≠c∧ne≤b) :
 (∀p∈Ab ne fr W H,∀q∈Ab ne fr W H,nm [(ne,a),(ne+1,c),(ne+2,b)] p.1=nm [(ne,a),(ne+1,c),(ne+2,b)] q.1→p.1=q.1) ∧
 ∀p∈Ab ne fr W H,p.1<ne+3∧f (nm [(ne,a),(ne+1,c),(ne+2,b)] p.1)=gu (nm [(ne,a),(ne+1,c),(ne+2,b)]) p.2∧dJ ne (ne+3) p:=by
 have e1:nm [(ne,a),(ne+1,c),(ne+2,b)] (ne+1)=c:=by simp only [eT]; rw [if_neg (by omega)]; simp
 have e2:nm [(ne,a),(ne+1,c),(ne+2,b)] (ne+2)=b:=by simp only [eT]; rw [if_neg (by omega),if_neg (by omega)]; simp
 have e3:∀j,j<ne+1→nm [(ne,a),(ne+1,c),(ne+2,b)] j=nm [(ne,a)] j:=fun j h=>by
  simp only [eT,j9]
  split
  ·rfl
  ·rw [if_neg (by omega),if_neg (by omega)]
 have e4:∀j,j<ne+1→nm [(ne,a)] j=a∨nm [(ne,a)] j<ne:=fun j h=>by
  simp only [eT,j9]
  split
  ·exact .inl rfl
  ·exact .inr (by omega)
 obtain ⟨i1,i2⟩:=hH
 have mem:∀p,p∈Ab ne fr W H→p=(ne+1,.live 8 [.agg (fr++[b9 8 (ne+2) W,.bool false])])∨(W≠[]∧p=(ne+2,.live 8 W))∨p∈H:=fun p h=>by
  unfold Ab at h
  rcases List.mem_cons.1 h with h|h
  ·exact .inl h
  rcases List.mem_append.1 h with h|h
  ·by_cases hw:W=[]
   ·subst hw; simp [dZ] at h
   ·rw [aJ hw] at h
    exact .inr (.inl ⟨hw,by simpa using h⟩)
  ·exact .inr (.inr h)
 have ra:=fun rn=>renL_ro rn _ hfr
 have rc:=cloL_ro (n:=ne+3) _ hfr
 have wa:=fun rn=>renL_ro rn _ hW
 have wc:=cloL_ro (n:=ne+3) _ hW
 constructor
 ·intro p hp' q hq' e
  rcases mem p hp' with rfl|⟨hw,rfl⟩|hp'
  ·rcases mem q hq' with rfl|⟨hw2,rfl⟩|hq'
   ·rfl
   ·simp only at e
    rw [e1,e2] at e
    exact absurd e.symm (hb hw2).2.2.1
   ·have a1:=(h2 q hq').1
    simp only at e
    rw [e1,e3 _ a1] at e
    rcases e4 _ a1 with h|h
    ·exact absurd (h.symm.trans e.symm) hca
    ·omega
  ·rcases mem q hq' with rfl|⟨hw2,rfl⟩|hq'
   ·simp only at e
    rw [e1,e2] at e
    exact absurd e (hb hw).2.2.1
   ·rfl
   ·have a1:=(h2 q hq').1
    simp only at e
    rw [e2,e3 _ a1] at e
    have:=hb hw
    rcases e4 _ a1 with h|h
    ·exact absurd (e.trans h) this.2.1
    ·omega
  ·have a0:=(h2 p hp').1
   rw [e3 _ a0] at e
   rcases mem q hq' with rfl|⟨hw2,rfl⟩|hq'
   ·simp only at e
    rw [e1] at e
    rcases e4 _ a0 with h|h
    ·exact absurd (h.symm.trans e) hca
    ·omega
   ·simp only at e
    rw [e2] at e
    have:=hb hw2
    rcases e4 _ a0 with h|h
    ·exact absurd (e.symm.trans h) this.2.1
    ·omega
   ·rw [e3 _ (h2 q hq').1] at e
    exact i1 p hp' q hq' e
 ·intro p hp'
  rcases mem p hp' with rfl|⟨hw,rfl⟩|hp'
  ·refine ⟨by simp only; omega,?_,?_⟩
   ·simp only
    rw [e1,hc]
    by_cases hw:W=[]
    ·subst hw
     simp only [jo,dT,renL,ren,bp,ra]
    ·rw [aN hw,aN hw]
     simp only [dT,renL,ren,bp,ra,e2]
   ·by_cases hw:W=[]
    ·subst hw
     simp [lL,cloL,clo,be,rc,jo]
    ·rw [aN hw]
     simp [lL,cloL,clo,be,rc]
  ·refine ⟨by simp only; omega,?_,?_⟩
   ·simp only
    rw [e2,(hb hw).1]
    simp only [dT,wa]
   ·simp only [lL]; exact wc
  ·obtain ⟨k1,k2,k3⟩:=i2 p hp'
   have a0:=(h2 p hp').1
   refine ⟨k1,?_,k3⟩
   rw [e3 _ a0,k2]
   exact yz (fun id h=>(e3 id h).symm) (h2 p hp').2
theorem bM {ne n0 a c:Nat} {H:List (Nat×BS)} {f:Nat→BS} {b:BS} (h:lG ne n0 ne H a f) (h2:∀p∈H,p.1<ne+1) (hc:ne≤c) (hca:a≠c):lG ne n0 ne H a (ar f c b):=by
 refine ⟨h.1,fun p hp'=>?_⟩
 obtain ⟨k1,k2,k3⟩:=h.2 p hp'
 have a0:=h2 p hp'
 refine ⟨k1,?_,k3⟩
 rw [ac _ _ _ ?_]
 ·exact k2
 ·simp only [eT,j9]
  split
  ·exact hca
  ·omega
theorem Ac {ne n0 a c:Nat} {H:List (Nat×BS)} {f:Nat→BS} {W:List AV} (h:lG ne n0 ne H a f) (h2:∀p∈H,p.1<ne+1) (hc:ne≤c) (hca:a≠c):lG ne n0 ne H a (kill c W f):=by
 unfold kill
 split
 ·exact h
 ·exact bM h h2 hc hca
theorem FO {X:List AV} (h:X.length=6):∃a b c d e g,X=[a,b,c,d,e,g]:=by
 match X,h with
 | [a,b,c,d,e,g],_=>exact ⟨a,b,c,d,e,g,rfl⟩
theorem jD {c:Cut} {s:Sg} (h:s.k=1):c.step s=⟨c.done++(if c.op then [c.cur] else []),⟨s.v 0,s.v 1,[],false⟩,true⟩:=by unfold Cut.step; rw [if_pos h]
theorem eO {c:Cut} {s:Sg} (h:s.k=6):c.step s=⟨c.done++[⟨c.cur.x,c.cur.y,c.cur.l,true⟩],⟨c.cur.x,c.cur.y,[],false⟩,false⟩:=by unfold Cut.step; rw [if_neg (by omega),if_pos h]
theorem fF {c:Cut} {s:Sg} (h1:s.k≠1) (h6:s.k≠6):c.step s=⟨c.done,⟨c.cur.x,c.cur.y,c.cur.l++[s],c.cur.closed⟩,true⟩:=by unfold Cut.step; rw [if_neg h1,if_neg h6]
def zP:List AV:=[.bool false,.sl 0 true [],.sl 0 true [],.bool false,.sl 0 true [],.sl 0 true []]
def yA (u:Sub) (b:Nat):AV := .agg (pC u.f++[b9 8 b (u.l.map Sg.av),.bool u.closed])
theorem Fj (l:List Sg) (hl:l.length≤4096) (h1:∀h:0<l.length,l[0].k=1) (hg:∀s∈l,s.Good) (Q:Sub→Prop) (hQ:∀i (b:Bool),i≤l.length→0<i→Q ⟨(cC (l.take i)).cur.x,(cC (l.take i)).cur.y,(cC (l.take i)).cur.l,b⟩)
 (nr ne:Nat) (hnr:nr<ne) (f0:Nat→BS) (K:AV→(Nat→BS)→Nat→Prop) (hv:List Sub→List (Nat×BS)) (ok:List Sub→Prop) (ok0:ok [])
 (hhp:∀D,∀p∈hv D,∀N,hp N (hv D) p.1=p.2) (hcl:∀D,∀p∈hv D,p.1<ne+1∧dJ ne (ne+1) p) (h0:∀p∈hv [],p.1<ne∧f0 p.1=p.2∧dJ ne ne p)
 (hy:∀D u a f n b (K':AV→(Nat→BS)→Nat→Prop),ok D→Q u→D.length≤l.length→((D++[u]).map fun u=>u.l.length).sum≤l.length→lG ne (ne+3) ne (hv D) a f→(u.l≠[]→f b = .live 8 (u.l.map Sg.av)∧b≠a∧b<n)→ne≤b∧b<n∧b≠a →
  (∀a' f' n',ok (D++[u])→lG ne (ne+3) ne (hv (D++[u])) a' f'→(∀c,ne≤c→c<n→c≠a→c≠b→f' c=f c∧a'≠c)→K' (.bool true) f' n')→(∀f' n',K (.tup []) f' n'→K' (.bool false) f' n')→YA Tryz.prog nr [yA u b] f n K')
 (hK:∀a f n,ok (aU l)→lG ne (ne+3) ne (hv (aU l)) a f→K (.tup []) f n):CA Tryz.prog 142 ([]++[.yld nr]++[.rp [il l]]) f0 ne K:=by
 have hVr:=dN l
 have hVl:(l.map Sg.av).length=l.length:=by simp
 have hVg:∀i (h:i<l.length),bk (l.map Sg.av) (i:Int) = .agg l[i].cs:=fun i h=>ft h
 have hin:=fun i=>nV (P:=fun _=>True) (l:=l.take i) fun _ _ _ _=>trivial
 have hst:=fun i (h:i<l.length)=>nW h
 have hnn:¬nr=ne:=by omega
 have q3:nr<ne+3:=by omega
 have hend:aU l=(cC l).done++(if (cC l).op then [(cC l).cur] else []):=rfl
 have hzero:cC (l.take 0)=iN:=rfl
 have hgi:∀i (h:i<l.length),l[i].Good:=fun i h=>hg _ (List.getElem_mem h)
 unfold il
 generalize l.map Sg.av=U at *
 obtain ⟨C,hC⟩:∃C:Nat→Cut,C=fun i=>cC (l.take i):=⟨_,rfl⟩
 have hC0:C 0=iN:=by rw [hC]; exact hzero
 have hCe:C l.length=cC l:=by rw [hC]; simp only [List.take_length]
 have hCs:∀i (h:i<l.length),C (i+1)=(C i).step l[i]:=fun i h=>by rw [hC]; exact hst i h
 have hCi:∀i,i≤l.length→(C i).done.length+(if (C i).op then 1 else 0)≤i∧((C i).op=false→(C i).cur.l=[])∧(C i).cur.closed=false∧(C i).cur.l.length≤i∧((C i).done.map fun u=>u.l.length).sum+(C i).cur.l.length≤i:=fun i hi=>by
  have h:=hin i
  have e:(l.take i).length=i:=by rw [List.length_take]; omega
  rw [hC]
  rw [e] at h
  exact ⟨h.num,h.shut,h.opn,by have:=h.len; simp only; omega,h.len⟩
 have hQ:∀i (b:Bool),i≤l.length→0<i→Q ⟨(C i).cur.x,(C i).cur.y,(C i).cur.l,b⟩:=fun i b h1 h2=>by rw [hC]; exact hQ i b h1 h2
 rw [←hCe] at hend
 clear hst hin hzero hC
 obtain ⟨fr,hfr⟩:∃fr:Nat→List AV,fr=fun i=>if i=0 then zP else pC (C i).cur.f:=⟨_,rfl⟩
 have fr0:fr 0=zP:=by rw [hfr]; rfl
 have frs:∀i,0<i→fr i=pC (C i).cur.f:=fun i h=>by rw [hfr]; simp only; rw [if_neg (by omega)]
 have frr:∀i,roL (fr i):=fun i=>by
  rw [hfr]; simp only; split
  ·unfold zP; simp -implicitDefEqProofs [go_sem]
  ·simp -implicitDefEqProofs [go_sem]
 have frl:∀i,(fr i).length=6:=fun i=>by rw [hfr]; simp only; split<;>rfl
 clear hfr
 have vrr:=fun rn=>renL_ro rn _ hVr
 have vrc:=cloL_ro (n:=ne+3) _ hVr
 refine Cz Tryz.func142 rfl [] rfl ?_
 simp -implicitDefEqProofs [go_sem]
 have hst0:lG ne (ne+3) ne (hv []) (ne+1) (ar f0 ne (.live 8 [.agg ([.bool false,.sl 0 true [],.sl 0 true [],.bool false,.sl 0 true [],.sl 0 true []]++[.sl 0 true [],.bool false])])):=by
  refine ⟨fun p hp' q hq' e=>?_,fun p hp'=>?_⟩
  ·have a:=(h0 p hp').1
   have b:=(h0 q hq').1
   simp only [eT,j9] at e
   rw [if_neg (by omega),if_neg (by omega)] at e
   exact e
  ·obtain ⟨a,b,d⟩:=h0 p hp'
   refine ⟨by omega,?_,pY (by omega) d⟩
   have e:nm [(ne,ne+1)] p.1=p.1:=by simp only [eT,j9]; rw [if_neg (by omega)]
   rw [e,ac _ _ _ (by omega),b]
   exact (yz (rn:=nm [(ne,ne+1)]) (rm:=id) (fun j h=>by simp only [eT,j9]; rw [if_neg (by omega)]; rfl) d).symm▸(iB _).symm
 have hen:=gR (ne:=ne) (a:=ne+1) (c:=ne) (b:=ne+2) (fr:=zP) (W:=[]) (H:=hv []) (by unfold zP; simp -implicitDefEqProofs [go_sem]) trivial hst0 (hcl []) (by rw [ah]; rfl) (by omega) (by omega) (fun h=>absurd rfl h)
 have hC0d:(C 0).done=[]:=by rw [hC0]; rfl
 have hC0o:(C 0).op=false:=by rw [hC0]; rfl
 have hC0l:(C 0).cur.l=[]:=by rw [hC0]; rfl
 obtain ⟨W,hW⟩:∃W:Nat→List AV,W=fun i=>(C i).cur.l.map Sg.av:=⟨_,rfl⟩
 have hW0:W 0=[]:=by rw [hW]; simp only [hC0l]; rfl
 refine aj (ne+3) (α:={i:Nat // i≤l.length∧ok (C i).done}) (fun i=>[(0,.yld nr),(3,.ptr (ne+1) 0 0),(4,.bool (C i.1).op),(7,.sl 8 false U),(8,.int .i64 l.length),(9,.int .i64 i.1)])
  (fun i=>Ab ne (fr i.1) (W i.1) (hv (C i.1).done)) (fun i=>l.length-i.1) ⟨0,Nat.zero_le _,by rw [hC0d]; exact ok0⟩ [(ne,ne+1),(ne+1,ne),(ne+2,ne+2)] (by simp) ?_ (by omega) ?_ ?_ fun ⟨i,hi,hoi⟩=>?_
 ·simp only [hW0,hC0d,fr0]; exact hen.1
 ·simp -implicitDefEqProofs [go_sem,hC0o,hnn,vrr,vrc,hVl,q3,show ¬nr=ne+1 by omega,show ¬nr=ne+2 by omega]
 ·simp only [hW0,hC0d,fr0]; exact hen.2
 clear hen hst0
 obtain ⟨hi1,hi2,hi3,hi4,hi5⟩:=hCi i hi
 have hsum:∀(D:List Sub) (u:Sub),((D++[u]).map fun u=>u.l.length).sum=(D.map fun u=>u.l.length).sum+u.l.length:=fun D u=>by rw [List.map_append,List.sum_append]; simp
 have hWr:roL (W i):=by rw [hW]; exact dN _
 have hget:=Ez (ne:=ne) (N:=ne+3) (fr:=fr i) (W:=W i) (hhp (C i).done) (hcl (C i).done)
 simp only
 generalize hF:hp (ne+3) (Ab ne (fr i) (W i) (hv (C i).done))=F at *
 obtain ⟨g1,g2,g3⟩:=hget
 by_cases a:i<l.length
 ·have a1:(i:Int)<l.length:=by omega
  have es:=wS i (by omega)
  have gi:=hVg i a
  have hs:=hCs i a
  have hg1:=hgi i a
  have h10:i=0→l[i].k=1:=fun e=>by subst e; exact h1 a
  have hcs:l[i].cs=[.int .i64 l[i].k,.int .i64 (l[i].v 0),.int .i64 (l[i].v 1),.int .i64 (l[i].v 2),.int .i64 (l[i].v 3),.int .i64 (l[i].v 4),.int .i64 (l[i].v 5),.int .i64 l[i].w]:=rfl
  generalize l[i]=x at *
  obtain ⟨x0,x1,x2,x3,x4,x5,hX⟩:=FO (frl i)
  have hfri:=frr i
  rw [hX] at g1 hfri
  have hlow:∀D,∀p∈hv D,p.1<ne+1:=fun D p h=>(hcl D p h).1
  have hyA:∀b,0<i→yA ⟨(C i).cur.x,(C i).cur.y,(C i).cur.l,b⟩ (ne+2) = .agg [x0,x1,x2,x3,x4,x5,b9 8 (ne+2) (W i),.bool b]:=fun b h=>by
   have:=frs i h
   rw [hX] at this
   unfold yA
   rw [show (Sub.f ⟨(C i).cur.x,(C i).cur.y,(C i).cur.l,b⟩)=(C i).cur.f from rfl,←this,hW]
   rfl
  have hyi:=fun b a f n K' h=>hy (C i).done ⟨(C i).cur.x,(C i).cur.y,(C i).cur.l,b⟩ a f n (ne+2) K' hoi (hQ i b hi h) (by omega) (by rw [hsum]; simp only; omega)
  have hWi:W i=(C i).cur.l.map Sg.av:=by rw [hW]
  have e12:¬ne+1=ne+2:=by omega
  have e13:¬ne+1=ne+3:=by omega
  have e31:¬ne+3=ne+1:=by omega
  have e23:¬ne+2=ne+3:=by omega
  have n1:¬nr=ne+1:=by omega
  have n2:¬nr=ne+2:=by omega
  have hWr1:roL (W (i+1)):=by rw [hW]; exact dN _
  by_cases k1:x.k=1
  ·have kat:=kY (x.v 0) (x.v 1) (hg1.i64 (by omega)) (hg1.i64 (by omega))
   rw [jD k1] at hs
   have hW1:W (i+1)=[]:=by rw [hW]; simp only [hs]; rfl
   have hf1:fr (i+1)=pC (au (x.v 0) (x.v 1)):=by rw [frs _ (by omega),hs]; rfl
   have ho1:(C (i+1)).op=true:=by rw [hs]
   rw [cE] at kat
   cases hop:(C i).op
   ·have hd1:(C (i+1)).done=(C i).done:=by rw [hs]; simp [hop]
    simp -implicitDefEqProofs [go_sem,a,a1,hVl,gi,hcs,k1,hop,e13,e31]
    refine ag kat ?_
    simp -implicitDefEqProofs [go_sem,a,a1,hVl,gi,hcs,k1,hop,e13,e31,g1,e12]
    have hH:=bM (c:=ne+1) (b := .live 8 [.agg (pC (au (x.v 0) (x.v 1))++[.sl 0 true [],.bool false])]) (bM (c:=ne+3) (b := .live 8 [.agg x.cs]) (bM (c:=ne+3) (b := .live 8 [.agg [.int .i64 0,.int .i64 0,.int .i64 0,.int .i64 0,.int .i64 0,.int .i64 0,.int .i64 0,.int .i64 0]]) g3 (hlow _) (by omega) (by omega)) (hlow _) (by omega) (by omega)) (hlow _) (by omega) (by omega)
    rw [←hd1,hcs,k1] at hH
    have hag:=gR (ne:=ne) (a:=ne) (c:=ne+1) (b:=ne+2) (fr:=fr (i+1)) (W:=W (i+1)) (H:=hv (C (i+1)).done) (frr _) hWr1 hH (hcl _) (by simp -implicitDefEqProofs [go_sem,hW1,hf1,e13,e31,e12,e13]) (by omega) (by omega) (fun h=>absurd hW1 h)
    exact ae ⟨i+1,a,by rw [hd1]; exact hoi⟩ (by simp only; omega) [(ne,ne),(ne+1,ne+1),(ne+2,ne+2)] (by simp) hag.1 (by omega) (by simp -implicitDefEqProofs [go_sem,es,ho1,hnn,n1,n2,vrr,vrc,q3]) hag.2
   ·have hi0:0<i:=by
     rcases Nat.eq_zero_or_pos i with h|h
     ·subst h; rw [hC0o] at hop; cases hop
     ·exact h
    have hd1:(C (i+1)).done=(C i).done++[⟨(C i).cur.x,(C i).cur.y,(C i).cur.l,false⟩]:=by
     rw [hs,hop,←hi3]; rfl
    have hy1:=hyi false
    rw [hyA false hi0] at hy1
    simp -implicitDefEqProofs [go_sem,a,a1,hVl,gi,hcs,k1,hop,e13,e31,g1,e12]
    refine hy1 ne _ _ _ hi0 (bM (bM g3 (hlow _) (by omega) (by omega)) (hlow _) (by omega) (by omega)) (fun h=>⟨?_,by omega,by omega⟩) (by omega) (fun a' f' n' ho' hH' hkp=>?_) fun f' n' h'=>?_
    ·simp -implicitDefEqProofs [go_sem,e23]
     rw [←hWi]
     exact g2 (by rw [hWi]; simpa using h)
    ·obtain ⟨c1,c2⟩:=hkp (ne+1) (by omega) (by omega) (by omega) (by omega)
     obtain ⟨c3,c4⟩:=hkp (ne+3) (by omega) (by omega) (by omega) (by omega)
     simp -implicitDefEqProofs [go_sem,e13,e31,g1] at c1 c3
     rw [←hd1] at ho' hH'
     simp -implicitDefEqProofs [go_sem,c1,c3]
     refine ag kat ?_
     simp -implicitDefEqProofs [go_sem,c1,c3]
     have hag:=gR (ne:=ne) (a:=a') (c:=ne+1) (b:=ne+2) (fr:=fr (i+1)) (W:=W (i+1)) (H:=hv (C (i+1)).done) (frr _) hWr1 (bM (c:=ne+1) (b := .live 8 [.agg (pC (au (x.v 0) (x.v 1))++[.sl 0 true [],.bool false])]) hH' (hlow _) (by omega) (by omega)) (hcl _) (by simp -implicitDefEqProofs [go_sem,hW1,hf1,e13,e31,e12,c1]) (by omega) (by omega) (fun h=>absurd hW1 h)
     exact ae ⟨i+1,a,ho'⟩ (by simp only; omega) [(ne,a'),(ne+1,ne+1),(ne+2,ne+2)] (by simp) hag.1 (by omega) (by simp -implicitDefEqProofs [go_sem,es,ho1,hnn,n1,n2,vrr,vrc,q3]) hag.2
    ·simp -implicitDefEqProofs [go_sem]
     exact h'
  by_cases k6:x.k=6
  ·rw [eO k6] at hs
   have hW1:W (i+1)=[]:=by rw [hW]; simp only [hs]; rfl
   have hi0:0<i:=by
    rcases Nat.eq_zero_or_pos i with h|h
    ·exact absurd (h10 h) k1
    ·exact h
   have hf1:fr (i+1)=[x0,x1,x2,x3,x4,x5]:=by rw [frs _ (by omega),hs,←hX,frs i hi0]; rfl
   have ho1:(C (i+1)).op=false:=by rw [hs]
   have hd1:(C (i+1)).done=(C i).done++[⟨(C i).cur.x,(C i).cur.y,(C i).cur.l,true⟩]:=by rw [hs]
   have hy1:=hyi true
   rw [hyA true hi0] at hy1
   simp -implicitDefEqProofs [go_sem,a,a1,hVl,gi,hcs,k1,k6,e13,e31,g1,e12]
   refine hy1 ne _ _ _ hi0 (bM (bM (bM g3 (hlow _) (by omega) (by omega)) (hlow _) (by omega) (by omega)) (hlow _) (by omega) (by omega)) (fun h=>⟨?_,by omega,by omega⟩) (by omega) (fun a' f' n' ho' hH' hkp=>?_) fun f' n' h'=>?_
   ·simp -implicitDefEqProofs [go_sem,e23]
    rw [←hWi]
    exact g2 (by rw [hWi]; simpa using h)
   ·obtain ⟨c1,c2⟩:=hkp (ne+1) (by omega) (by omega) (by omega) (by omega)
    simp -implicitDefEqProofs [go_sem,e13,e31,g1] at c1
    rw [←hd1] at ho' hH'
    simp -implicitDefEqProofs [go_sem,c1]
    have hag:=gR (ne:=ne) (a:=a') (c:=ne+1) (b:=ne+2) (fr:=fr (i+1)) (W:=W (i+1)) (H:=hv (C (i+1)).done) (frr _) hWr1 (bM (c:=ne+1) (b := .live 8 [.agg [x0,x1,x2,x3,x4,x5,.sl 0 true [],.bool false]]) hH' (hlow _) (by omega) (by omega)) (hcl _) (by simp -implicitDefEqProofs [go_sem,hW1,hf1,e13,e31,e12,c1]) (by omega) (by omega) (fun h=>absurd hW1 h)
    exact ae ⟨i+1,a,ho'⟩ (by simp only; omega) [(ne,a'),(ne+1,ne+1),(ne+2,ne+2)] (by simp) hag.1 (by omega) (by simp -implicitDefEqProofs [go_sem,es,ho1,hnn,n1,n2,vrr,vrc,q3]) hag.2
   ·simp -implicitDefEqProofs [go_sem]
    exact h'
  rw [fF k1 k6] at hs
  have hW1:W (i+1)=W i++[.agg x.cs]:=by rw [hW]; simp only [hs]; rw [List.map_append]; rfl
  have hi0:0<i:=by
   rcases Nat.eq_zero_or_pos i with h|h
   ·exact absurd (h10 h) k1
   ·exact h
  have hf1:fr (i+1)=[x0,x1,x2,x3,x4,x5]:=by rw [frs _ (by omega),hs,←hX,frs i hi0]; rfl
  have ho1:(C (i+1)).op=true:=by rw [hs]
  have hd1:(C (i+1)).done=(C i).done:=by rw [hs]
  have hWl:(W i).length≤i:=by rw [hWi,List.length_map]; exact hi4
  simp -implicitDefEqProofs [go_sem,a,a1,hVl,gi,hcs,k1,k6,e13,e31,g1,e12]
  rw [hcs] at hW1
  have aps:b9 8 (ne+3+1+1) (W i++[.agg [.int .i64 x.k,.int .i64 (x.v 0),.int .i64 (x.v 1),.int .i64 (x.v 2),.int .i64 (x.v 3),.int .i64 (x.v 4),.int .i64 (x.v 5),.int .i64 x.w]]) = .own 8 (ne+3+1+1) 0 ((W i).length+1):=by rw [aN (by simp),List.length_append]; rfl
  have e24:¬ne+2=ne+3+1:=by omega
  have e14:¬ne+1=ne+3+1:=by omega
  have e15:¬ne+1=ne+3+1+1:=by omega
  have e51:¬ne+3+1+1=ne+1:=by omega
  have e35:¬ne+3=ne+3+1+1:=by omega
  have hkl:∀(G:Nat→BS) j,j≠ne+2→kill (ne+2) (W i) G j=G j:=fun G j h=>by
   unfold kill
   split
   ·rfl
   ·exact ac _ _ _ h
  have hk1:=fun G=>hkl G (ne+1) (by omega)
  have hk3:=fun G=>hkl G (ne+3) (by omega)
  have apl:∀v,(b9 8 (ne+2) (W i)).lay 0 [v]=v:=fun v=>by unfold b9; split<;>rfl
  have apc:(b9 8 (ne+2) (W i)).cells=[b9 8 (ne+2) (W i)]:=by unfold b9; split<;>rfl
  refine bf (.inl rfl) (by omega) (by omega) (by simp -implicitDefEqProofs [go_sem]) (by simp<;>omega) (fun h=>by simp -implicitDefEqProofs [go_sem,e23,e24,g2 h]) ?_
  simp -implicitDefEqProofs [go_sem,hk1,e14,e15,e13,g1,apl,apc]
  have hH:=bM (c:=ne+1) (b := .live 8 [.agg [x0,x1,x2,x3,x4,x5,.own 8 (ne+3+1+1) 0 ((W i).length+1),.bool false]]) (bM (c:=ne+3+1+1) (b := .live 8 (W i++[.agg [.int .i64 x.k,.int .i64 (x.v 0),.int .i64 (x.v 1),.int .i64 (x.v 2),.int .i64 (x.v 3),.int .i64 (x.v 4),.int .i64 (x.v 5),.int .i64 x.w]])) (Ac (c:=ne+2) (W:=W i) (bM (c:=ne+3+1) (b := .live 8 [.agg [.int .i64 x.k,.int .i64 (x.v 0),.int .i64 (x.v 1),.int .i64 (x.v 2),.int .i64 (x.v 3),.int .i64 (x.v 4),.int .i64 (x.v 5),.int .i64 x.w]]) (bM (c:=ne+3) (b := .live 8 [.agg [.int .i64 x.k,.int .i64 (x.v 0),.int .i64 (x.v 1),.int .i64 (x.v 2),.int .i64 (x.v 3),.int .i64 (x.v 4),.int .i64 (x.v 5),.int .i64 x.w]]) (bM (c:=ne+3) (b := .live 8 [.agg [.int .i64 0,.int .i64 0,.int .i64 0,.int .i64 0,.int .i64 0,.int .i64 0,.int .i64 0,.int .i64 0]]) g3 (hlow _) (by omega) (by omega)) (hlow _) (by omega) (by omega)) (hlow _) (by omega) (by omega)) (hlow _) (by omega) (by omega)) (hlow _) (by omega) (by omega)) (hlow _) (by omega) (by omega)
  rw [←hd1] at hH
  have hag:=gR (ne:=ne) (a:=ne) (c:=ne+1) (b:=ne+3+1+1) (fr:=fr (i+1)) (W:=W (i+1)) (H:=hv (C (i+1)).done) (frr _) hWr1 hH (hcl _) (by simp -implicitDefEqProofs [go_sem,hW1,hf1,e13,e31,e12,aps]) (by omega) (by omega) (fun _=>⟨by simp -implicitDefEqProofs [go_sem,hW1,e51,show ¬ne+3+1=ne by omega],by omega,by omega,by omega⟩)
  exact ae ⟨i+1,a,by rw [hd1]; exact hoi⟩ (by simp only; omega) [(ne,ne),(ne+1,ne+1),(ne+2,ne+3+1+1)] (by simp) hag.1 (by omega) (by simp -implicitDefEqProofs [go_sem,es,ho1,hnn,n1,n2,vrr,vrc,q3]) hag.2
 have a1:¬(i:Int)<l.length:=by omega
 have hii:i=l.length:=by omega
 obtain ⟨x0,x1,x2,x3,x4,x5,hX⟩:=FO (frl i)
 have hfri:=frr i
 rw [hX] at g1 hfri
 have hlow:∀D,∀p∈hv D,p.1<ne+1:=fun D p h=>(hcl D p h).1
 rw [←hii] at hend
 have hWi:W i=(C i).cur.l.map Sg.av:=by rw [hW]
 rw [hend] at hK
 cases hop:(C i).op
 ·rw [hop] at hK
  simp only [Bool.false_eq_true,if_false,List.append_nil] at hK
  simp -implicitDefEqProofs [go_sem,a1,hVl,hop]
  exact hK _ _ _ hoi g3
 have hi0:0<i:=by
  rcases Nat.eq_zero_or_pos i with h|h
  ·subst h; rw [hC0o] at hop; cases hop
  ·exact h
 have hyA:yA ⟨(C i).cur.x,(C i).cur.y,(C i).cur.l,false⟩ (ne+2) = .agg [x0,x1,x2,x3,x4,x5,b9 8 (ne+2) (W i),.bool false]:=by
  have:=frs i hi0
  rw [hX] at this
  unfold yA
  rw [show (Sub.f ⟨(C i).cur.x,(C i).cur.y,(C i).cur.l,false⟩)=(C i).cur.f from rfl,←this,hW]
  rfl
 have hy1:=fun a f n K' h=>hy (C i).done ⟨(C i).cur.x,(C i).cur.y,(C i).cur.l,false⟩ a f n (ne+2) K' hoi (hQ i false hi h) (by omega) (by rw [hsum]; simp only; omega)
 rw [hyA] at hy1
 have hcu:(C i).cur=⟨(C i).cur.x,(C i).cur.y,(C i).cur.l,false⟩:=by rw [←hi3]
 rw [hop,if_pos rfl,hcu] at hK
 simp -implicitDefEqProofs [go_sem,a1,hVl,hop,g1]
 refine hy1 ne _ _ _ hi0 g3 (fun h=>⟨?_,by omega,by omega⟩) (by omega) (fun a' f' n' ho' hH' hkp=>?_) fun f' n' h'=>?_
 ·rw [←hWi]
  exact g2 (by rw [hWi]; simpa using h)
 ·simp -implicitDefEqProofs [go_sem]
  exact hK _ _ _ ho' hH'
 ·simp -implicitDefEqProofs [go_sem]
  exact h'
open Go Go.Proofs
set_option linter.unusedSimpArgs false
set_option linter.unusedVariables false
set_option maxRecDepth 20000
def DL (e:PQ×PQ):AV := .agg (pC e.1++pC e.2)
theorem Hu (e:PQ×PQ):ro (DL e):=by unfold DL; simp -implicitDefEqProofs [go_sem,aB]
def Iv (E:List (PQ×PQ)):AV := .sl 12 false (E.map DL)
theorem w9 (E:List (PQ×PQ)):roL (E.map DL):=bC Hu
theorem Hv (E:List (PQ×PQ)):ro (Iv E):=by unfold Iv; simp only [ro]; exact w9 E
def mS (l:List PQ) (k:Nat):List (PQ×PQ):=((List.range k).map fun i=>(l.getD i ⟨0,0⟩,l.getD ((i+1)%l.length) ⟨0,0⟩)).filter fun e=>decide (e.1.y≠e.2.y)
theorem AC (l:List PQ):mS l l.length=uH l:=rfl
theorem wZ (l:List PQ) (k:Nat):mS l (k+1)=mS l k++if (l.getD k ⟨0,0⟩).y=(l.getD ((k+1)%l.length) ⟨0,0⟩).y then [] else [(l.getD k ⟨0,0⟩,l.getD ((k+1)%l.length) ⟨0,0⟩)]:=by
 unfold mS
 rw [List.range_succ,List.map_append,List.filter_append]
 congr 1
 simp only [List.map_cons,List.map_nil]
 by_cases h:(l.getD k ⟨0,0⟩).y=(l.getD ((k+1)%l.length) ⟨0,0⟩).y
 ·rw [if_pos h,List.filter_cons_of_neg (by simpa using h)]; rfl
 ·rw [if_neg h,List.filter_cons_of_pos (by simpa using h)]; rfl
theorem qR (l:List PQ) (k:Nat):(mS l k).length≤k:=by
 unfold mS
 refine Nat.le_trans (List.length_filter_le _ _) ?_
 simp
def eE (L:List (List PQ)):List (PQ×PQ):=L.flatMap uH
theorem vL (L:List (List PQ)) (l:List PQ):eE (L++[l])=eE L++uH l:=by unfold eE; simp
theorem zu {L:List (List PQ)} {n:Nat} (h:∀l∈L,l.length≤n):(eE L).length≤L.length*n:=by
 induction L with
 | nil=>simp [eE]
 | cons l L ih =>
  have h1:=ih fun x hx=>h x (List.mem_cons_of_mem _ hx)
  have h2:=h l List.mem_cons_self
  have h3:=qR l l.length
  have e:eE (l::L)=uH l++eE L:=rfl
  rw [e,List.length_append,←AC,List.length_cons,Nat.succ_mul]
  omega
theorem CG (v0 v1 v2 v3 v4 v5:Int) (h0 : -9223372036854775808≤v0∧v0≤9223372036854775807) (h1 : -9223372036854775808≤v1∧v1≤9223372036854775807) (h2 : -9223372036854775808≤v2∧v2≤9223372036854775807) (h3 : -9223372036854775808≤v3∧v3≤9223372036854775807) (h4 : -9223372036854775808≤v4∧v4≤9223372036854775807) (h5 : -9223372036854775808≤v5∧v5≤9223372036854775807) :
 ab Tryz.prog 83 [.agg [.int .i64 v0,.int .i64 v1,.int .i64 v2,.int .i64 v3,.int .i64 v4,.int .i64 v5]] (oJ ⟨(v0:Rat) / (65536:Int),(v1:Rat) / (65536:Int),(v2:Rat) / (65536:Int),(v3:Rat) / (65536:Int),(v4:Rat) / (64:Int),(v5:Rat) / (64:Int)⟩).av:=by
 have k0:=di v0 65536 h0 (by omega)
 have k1:=di v1 65536 h1 (by omega)
 have k2:=di v2 65536 h2 (by omega)
 have k3:=di v3 65536 h3 (by omega)
 have k4:=di v4 64 h4 (by omega)
 have k5:=di v5 64 h5 (by omega)
 generalize (v0:Rat) / (65536:Int)=r0 at *
 generalize (v1:Rat) / (65536:Int)=r1 at *
 generalize (v2:Rat) / (65536:Int)=r2 at *
 generalize (v3:Rat) / (65536:Int)=r3 at *
 generalize (v4:Rat) / (64:Int)=r4 at *
 generalize (v5:Rat) / (64:Int)=r5 at *
 have e:(oJ ⟨r0,r1,r2,r3,r4,r5⟩).av = .agg (rC r0++(rC r1++(rC r2++(rC r3++(rC r4++rC r5))))):=rfl
 rw [e]
 simp only [eV] at *
 unfold rC at *
 refine Pg Tryz.func83 rfl [.cell 2 29] rfl (by simp -implicitDefEqProofs [go_sem]) ?_
 simp -implicitDefEqProofs [go_sem]
 refine aa k0 ?_
 simp -implicitDefEqProofs [go_sem]
 refine aa k1 ?_
 simp -implicitDefEqProofs [go_sem]
 refine aa k2 ?_
 simp -implicitDefEqProofs [go_sem]
 refine aa k3 ?_
 simp -implicitDefEqProofs [go_sem]
 refine aa k4 ?_
 simp -implicitDefEqProofs [go_sem]
 refine aa k5 ?_
 simp -implicitDefEqProofs [go_sem,aS]
theorem HS (l:List PQ):(l.map pc).map PR.val=l:=by
 rw [List.map_map]
 exact (List.map_congr_left fun x _=>bJ x).trans (List.map_id _)
@[go_sem] theorem MZ (a b c d e f:Int):fJ Tryz.prog (some ⟨6,48,.array 6 2,[.int .i64 0,.int .i64 0,.int .i64 0,.int .i64 0,.int .i64 0,.int .i64 0]⟩) [(0,.int .i64 a),(1,.int .i64 b),(2,.int .i64 c),(3,.int .i64 d),(4,.int .i64 e),(5,.int .i64 f)]=some (True,.agg [.int .i64 a,.int .i64 b,.int .i64 c,.int .i64 d,.int .i64 e,.int .i64 f]):=by
 unfold fJ
 simp -implicitDefEqProofs [go_sem]
 rfl
theorem D8 {α:Type} {g:α→AV} {l:List α} {i:Nat} (h:i<l.length):bk (l.map g) (i:Int)=g l[i]:=by
 unfold bk
 rw [Int.toNat_natCast,List.getD_eq_getElem?_getD,List.getElem?_map,List.getElem?_eq_getElem h]; rfl
theorem pn (l:List PR) (m:Nat) (hl:l.length≤9223372036854775807):ab Tryz.prog 23 [Hk l,.int .i64 m] (.bool (decide (∀p∈l,p.x.sml m∧p.y.sml m))):=by
 have hk:=fun p:PR=>sR p m
 refine Pg Tryz.func23 rfl [.tmp 4] rfl (by simp -implicitDefEqProofs [go_sem]) ?_
 have hr:=xb l
 have hg:∀i (h:i<l.length),bk (l.map PR.av) (i:Int) = .agg l[i].cs:=fun i h=>D8 h
 have hPl:(l.map PR.av).length=l.length:=by simp
 unfold Hk
 generalize l.map PR.av=V at *
 simp -implicitDefEqProofs [go_sem]
 refine aj 0 (α:={i:Nat // i≤l.length∧∀j (h:j<l.length),j<i→l[j].x.sml m∧l[j].y.sml m}) (fun i=>[(0,.sl 6 false V),(1,.int .i64 m),(5,.int .i64 i.1)]) (fun _=>[]) (fun i=>l.length-i.1) ⟨0,Nat.zero_le _,fun j _ h=>absurd h (by omega)⟩ [] (by simp) (fun _ _ _ _ h=>h) (by simp) (by simp -implicitDefEqProofs [go_sem,renL_ro (nm []) _ hr,cloL_ro (n:=0) _ hr]) (by simp -implicitDefEqProofs [go_sem]) fun ⟨i,hi,hj⟩=>?_
 by_cases a:i<l.length
 ·have a1:(i:Int)<l.length:=by omega
  have g:=hg i a
  have k:=hk l[i]
  have es:=wS i (by omega)
  have u6:l[i].cs.length=6:=rfl
  have u7:l[i].cs.take 6=l[i].cs:=rfl
  have u9:=l[i].ro_cs
  rw [PR.av_cs] at k
  by_cases b:l[i].x.sml m∧l[i].y.sml m
  ·have hn:∀j (h:j<l.length),j<i+1→l[j].x.sml m∧l[j].y.sml m:=fun j h h'=>by
    rcases Nat.lt_or_ge j i with h2|h2
    ·exact hj j h h2
    ·have:j=i:=by omega
     subst this; exact b
   rw [decide_eq_true b] at k
   generalize l[i].cs=S at *
   simp -implicitDefEqProofs [go_sem,a1,a,hPl,g,u6,u7]
   refine ai _ k (by simp [go_sem,u9]) ?_
   simp -implicitDefEqProofs [go_sem,es]
   exact ae ⟨i+1,a,hn⟩ (by simp only; omega) [] (by simp) (fun _ _ _ _ h=>h) (by simp) (by simp -implicitDefEqProofs [go_sem,renL_ro (nm []) _ hr,cloL_ro (n:=0) _ hr]) (by simp -implicitDefEqProofs [go_sem])
  ·have hF:decide (∀p∈l,p.x.sml m∧p.y.sml m)=false:=decide_eq_false fun h=>b (h _ (List.getElem_mem a))
   rw [decide_eq_false b] at k
   rw [hF]
   generalize l[i].cs=S at *
   simp -implicitDefEqProofs [go_sem,a1,a,hPl,g,u6,u7]
   refine ai _ k (by simp [go_sem,u9]) ?_
   simp -implicitDefEqProofs [go_sem]
 ·have a1:¬(i:Int)<l.length:=by omega
  have hT:decide (∀p∈l,p.x.sml m∧p.y.sml m)=true:=decide_eq_true fun p hp=>by
   obtain ⟨j,h,rfl⟩:=List.mem_iff_getElem.1 hp
   exact hj j h (by omega)
  rw [hT]
  simp -implicitDefEqProofs [go_sem,a1,hPl]
structure MR.Lm (m:MR):Prop where
 a:m.a.Lm
 b:m.b.Lm
 c:m.c.Lm
 d:m.d.Lm
 e:m.e.Lm
 f:m.f.Lm
open Go.ChangeShapes Go.WideShapes Go.ChangeAt Go.RowKit
section
variable {H:Type} {enc:TypeId×Value→H} {P:Program} {w:World}
def yR (n:Nat) (cs:List Value):Prop:=∀v∈cs,∀a len cap,v = .slice a len cap→len≤n
theorem yR.mono {n m:Nat} {cs:List Value} (h:yR n cs) (hn:n≤m):yR m cs:=fun v hv a len cap e=>Nat.le_trans (h v hv a len cap e) hn
theorem yR.len {n:Nat} {cx:Cx}:∀ {l:List AV} {cs:List Value},yR n cs→Rl cx l cs→∀sz t L,AV.sl sz t L∈l→L.length≤n
 | [],cs,_,_,sz,t,L,h=>by cases h
 | a::l,cs,hs,hr,sz,t,L,h=>by
  simp only [Rl] at hr
  obtain ⟨v,r,rfl,h1,h2⟩:=hr
  rcases List.mem_cons.1 h with rfl|h
  ·simp only [Rv] at h1
   obtain ⟨a,cap,rfl,_⟩:=h1
   exact hs _ List.mem_cons_self _ _ _ rfl
  ·exact yR.len (fun v hv=>hs v (List.mem_cons_of_mem _ hv)) h2 sz t L h
end
section
variable {H:Type} {enc:TypeId×Value→H} {w:World}
end
theorem wD (m:MR) (hm:m.Lm):∃b:Bool,ab Tryz.prog 46 [m.av] (.bool b)∧(b=true→m.In 6):=by
 obtain ⟨b,hb⟩:∃b,b=decide (∀p∈[m.x,m.y,m.s],p.x.sml 6∧p.y.sml 6):=⟨_,rfl⟩
 refine ⟨b,?_,fun h=>?_⟩
 ·have k:=pn [m.x,m.y,m.s] 6 (by simp)
  rw [←hb] at k
  have k2:ab Tryz.prog 116 [.sl 6 false [m.x.av,m.y.av,m.s.av]] (.bool b):=by
   refine Pg Tryz.func116 rfl [.tmp 2] rfl (by simp -implicitDefEqProofs [go_sem]) ?_
   have r1:=jQ m.x
   have r2:=jQ m.y
   have r3:=jQ m.s
   change ab _ _ [.sl 6 false [m.x.av,m.y.av,m.s.av],.int .i64 6] _ at k
   generalize m.x.av=X at *
   generalize m.y.av=Y at *
   generalize m.s.av=Z at *
   simp -implicitDefEqProofs [go_sem]
   refine ai _ k (by simp [go_sem,r1,r2,r3]) ?_
   simp -implicitDefEqProofs [go_sem]
  refine Pg Tryz.func46 rfl [.tmp 2] rfl (by simp -implicitDefEqProofs [go_sem]) ?_
  change ab _ _ [.sl 6 false [.agg m.x.cs,.agg m.y.cs,.agg m.s.cs]] _ at k2
  unfold PR.cs MR.x MR.y MR.s at k2
  unfold MR.av MR.cs
  simp -implicitDefEqProofs [go_sem]
  refine BV _ k2 (by simp -implicitDefEqProofs [go_sem]) (by simp -implicitDefEqProofs [go_sem]) (by simp -implicitDefEqProofs [go_sem]) (.inr (by simp only [flat])) ?_
  simp -implicitDefEqProofs [go_sem]
 ·rw [hb] at h
  have h:=of_decide_eq_true h
  have h1:=h m.x (by simp)
  have h2:=h m.y (by simp)
  have h3:=h m.s (by simp)
  exact ⟨iE h1.1 hm.a,iE h1.2 hm.b,iE h2.1 hm.c,iE h2.2 hm.d,iE h3.1 hm.e,iE h3.2 hm.f⟩
def jH (x:List PQ×Bool):AV := .agg [pL x.1,.bool x.2]
theorem Fe (x:List PQ×Bool):ro (jH x):=by unfold jH; simp only [ro,roL]; exact ⟨li _,trivial,trivial⟩
theorem lf (L:List (List PQ×Bool)):roL (L.map jH):=bC Fe
def kg (L:List (List PQ×Bool)):AV := .sl 2 false (L.map jH)
theorem sM (L:List (List PQ×Bool)):ro (kg L):=by unfold kg; simp only [ro]; exact lf L
def si (x:List (List PQ×Bool)×Int):AV := .tup [kg x.1,.int .i64 x.2]
theorem Fd (x:List (List PQ×Bool)×Int):ro (si x):=by unfold si; simp only [ro,roL]; exact ⟨sM _,trivial,trivial⟩
theorem yg (e:Int):Wk (.tup [.sl 0 true [],.int .i64 e]) (si ([],e)):=Wk.tup (.cons (Wk.nil 0 2 true) (.cons (Wk.refl _) .nil))
noncomputable def dL (l:List Sg) (m:MQ) (tol:Rat):List (List PQ×Bool)×Int:=if ¬bL l then ([],11) else if tol≤0 then ([],1) else (dM l m tol,0)
def ic (m:MQ) (tol:Rat) (D:List Sub):Nat:=(D.map fun u=>(ly m tol u).1.length).sum
theorem s7 {m:MQ} {tol:Rat} (h0:0<tol):∀ {D:List Sub},(∀u∈D,OkS m tol u)→ic m tol D≤D.length+16384*(D.map fun u=>u.l.length).sum
 | [],_=>by simp [ic]
 | u::D,h=>by
  have ih:=s7 h0 (D:=D) fun x hx=>h x (by simp [hx])
  have hu:=(dP h0 (h u (by simp)).ok).1
  have hc:=pW (dE m tol u) u.closed
  have hr:(dE m tol u).length=1+(bV m tol u.f u.l).length:=by unfold dE; rw [List.length_cons]; omega
  have hs:(ly m tol u).1.length=(bz (dE m tol u) u.closed).length:=rfl
  unfold ic at ih ⊢
  simp only [List.map_cons,List.sum_cons,List.length_cons]
  omega
theorem rd (m:MQ) (tol:Rat) (D:List Sub) (u:Sub):ic m tol (D++[u])=ic m tol D+(ly m tol u).1.length:=by
 unfold ic
 rw [List.map_append,List.sum_append]
 simp
def Ex (M TC V:List AV) (m:Int) (r:Loop) (T:Nat→AV):List (Nat×BS):=[(0,.live 18 [.agg M]),(1,.live 3 [.agg TC]),(2,.live 1 [.sl 0 true []]),(3,.live 1 [.int .i64 0]),(4,.live 1 [b9 2 8 V]),(5,.live 1 [.int .i64 m]),(7,.obj (.loop r) T)]++dZ 2 8 V
theorem G3 {M TC V:List AV} {m:Int} {r:Loop} {T:Nat→AV}:∀p∈Ex M TC V m r T,∀N,hp N (Ex M TC V m r T) p.1=p.2:=by
 intro p hpm N
 unfold Ex at hpm ⊢
 by_cases hV:V=[]
 ·subst hV
  simp only [dZ,if_true,List.append_nil,List.mem_cons,List.not_mem_nil,or_false] at hpm ⊢
  rcases hpm with rfl|rfl|rfl|rfl|rfl|rfl|rfl<;>simp -implicitDefEqProofs [go_sem]
 ·rw [aJ hV] at hpm ⊢
  simp only [List.cons_append,List.nil_append,List.mem_cons,List.not_mem_nil,or_false] at hpm ⊢
  rcases hpm with rfl|rfl|rfl|rfl|rfl|rfl|rfl|rfl<;>simp -implicitDefEqProofs [go_sem]
theorem Ey {M TC V:List AV} (hM:roL M) (hTC:roL TC) (hro:roL V) {m:Int} {r:Loop} {T:Nat→AV}:∀p∈Ex M TC V m r T,p.1<9∧dJ 8 9 p:=by
 intro p hpm
 unfold Ex at hpm
 have hc:=cloL_ro (n:=9) _ hro
 have hcM:=cloL_ro (n:=9) _ hM
 have hcT:=cloL_ro (n:=9) _ hTC
 by_cases hV:V=[]
 ·subst hV
  simp only [dZ,if_true,List.append_nil,List.mem_cons,List.not_mem_nil,or_false] at hpm
  rcases hpm with rfl|rfl|rfl|rfl|rfl|rfl|rfl<;>simp -implicitDefEqProofs [go_sem,b9,hcM,hcT]
 ·rw [aJ hV,aN hV] at hpm
  simp only [List.cons_append,List.nil_append,List.mem_cons,List.not_mem_nil,or_false] at hpm
  rcases hpm with rfl|rfl|rfl|rfl|rfl|rfl|rfl|rfl<;>simp -implicitDefEqProofs [go_sem,hc,hcM,hcT]
theorem rW {M TC V:List AV} (hM:roL M) (hTC:roL TC) (hro:roL V) {m:Int} {r:Loop} {T:Nat→AV} {a:Nat} {f:Nat→BS}:lG 8 11 8 (Ex M TC V m r T) a f↔(f 0 = .live 18 [.agg M]∧f 1 = .live 3 [.agg TC]∧f 2 = .live 1 [.sl 0 true []]∧f 3 = .live 1 [.int .i64 0]∧f 4 = .live 1 [b9 2 a V]∧f 5 = .live 1 [.int .i64 m]∧f 7 = .obj (.loop r) T∧(V≠[]→f a = .live 2 V∧a≠0∧a≠1∧a≠2∧a≠3∧a≠4∧a≠5∧a≠7)):=by
 have hr:=renL_ro (nm [(8,a)]) _ hro
 have hc:=cloL_ro (n:=11) _ hro
 have hrM:=renL_ro (nm [(8,a)]) _ hM
 have hcM:=cloL_ro (n:=11) _ hM
 have hrT:=renL_ro (nm [(8,a)]) _ hTC
 have hcT:=cloL_ro (n:=11) _ hTC
 unfold lG Ex
 by_cases hV:V=[]
 ·subst hV
  simp -implicitDefEqProofs [go_sem,dZ,b9,hrM,hcM,hrT,hcT]
 ·rw [aJ hV,aN hV,aN hV]
  obtain ⟨L,hL⟩:∃L:List (Nat×BS),L=[(0,.live 18 [.agg M]),(1,.live 3 [.agg TC]),(2,.live 1 [.sl 0 true []]),(3,.live 1 [.int .i64 0]),(4,.live 1 [.own 2 8 0 V.length]),(5,.live 1 [.int .i64 m]),(7,.obj (.loop r) T)]++[(8,.live 2 V)]:=⟨_,rfl⟩
  rw [←hL]
  have mm:∀p,p∈L↔(p=(0,.live 18 [.agg M])∨p=(1,.live 3 [.agg TC])∨p=(2,.live 1 [.sl 0 true []])∨p=(3,.live 1 [.int .i64 0])∨p=(4,.live 1 [.own 2 8 0 V.length])∨p=(5,.live 1 [.int .i64 m])∨p=(7,.obj (.loop r) T)∨p=(8,.live 2 V)):=fun p=>by
   rw [hL]; simp only [List.cons_append,List.nil_append,List.mem_cons,List.not_mem_nil,or_false]
  constructor
  ·rintro ⟨h1,h2⟩
   have g:=fun p hp=>(h2 p hp).2.1
   have m1:=(mm _).2 (.inl rfl)
   have m2:=(mm _).2 (.inr (.inl rfl))
   have m3:=(mm _).2 (.inr (.inr (.inl rfl)))
   have m4:=(mm _).2 (.inr (.inr (.inr (.inl rfl))))
   have m5:=(mm _).2 (.inr (.inr (.inr (.inr (.inl rfl)))))
   have m6:=(mm _).2 (.inr (.inr (.inr (.inr (.inr (.inl rfl))))))
   have m7:=(mm _).2 (.inr (.inr (.inr (.inr (.inr (.inr (.inl rfl)))))))
   have m8:=(mm _).2 (.inr (.inr (.inr (.inr (.inr (.inr (.inr rfl)))))))
   have k1:=g _ m1
   have k2:=g _ m2
   have k3:=g _ m3
   have k4:=g _ m4
   have k5:=g _ m5
   have k6:=g _ m6
   have k7:=g _ m7
   have k8:=g _ m8
   have d:=fun q hq=>h1 _ m8 q hq
   have d1:=d _ m1
   have d2:=d _ m2
   have d3:=d _ m3
   have d4:=d _ m4
   have d5:=d _ m5
   have d6:=d _ m6
   have d7:=d _ m7
   simp -implicitDefEqProofs [go_sem,hr,hrM,hrT] at k1 k2 k3 k4 k5 k6 k7 k8 d1 d2 d3 d4 d5 d6 d7
   exact ⟨k1,k2,k3,k4,k5,k6,k7,fun _=>⟨k8,d1,d2,d3,d4,d5,d6,d7⟩⟩
  ·rintro ⟨h1,h2,h3,h4,h5,h6,h7,h8⟩
   obtain ⟨g1,g2,g3,g4,g5,g6,g7,g8⟩:=h8 hV
   refine ⟨fun p hpm q hqm e=>?_,fun p hpm=>?_⟩
   ·rw [mm] at hpm hqm
    rcases hpm with rfl|rfl|rfl|rfl|rfl|rfl|rfl|rfl<;>rcases hqm with rfl|rfl|rfl|rfl|rfl|rfl|rfl|rfl<;>first|rfl|(exfalso; simp -implicitDefEqProofs [go_sem] at e; omega)|(exfalso; simp -implicitDefEqProofs [go_sem] at e)
   ·rw [mm] at hpm
    rcases hpm with rfl|rfl|rfl|rfl|rfl|rfl|rfl|rfl<;>simp -implicitDefEqProofs [go_sem,h1,h2,h3,h4,h5,h6,h7,g1,hr,hc,hrM,hcM,hrT,hcT]
theorem EI (l:List Sg) (M TC:List AV) (hM:roL M) (hTC:roL TC) (f:Nat→BS) (K:AV→(Nat→BS)→Nat→Prop) (h0:f 0 = .live 18 [.agg M]) (h1:f 1 = .live 3 [.agg TC]) (h2:f 2 = .live 1 [.sl 0 true []]) (h3:f 3 = .live 1 [.int .i64 0]) (h4:f 4 = .live 1 [.sl 0 true []]) (h5:f 5 = .live 1 [.int .i64 0])
 (hK:∀f':Nat→BS,f' 0 = .live 18 [.agg M]→f' 1 = .live 3 [.agg TC]→f' 2 = .live 1 [.sl 0 true []]→f' 3 = .live 1 [.int .i64 0]→f' 4 = .live 1 [.sl 0 true []]→f' 5 = .live 1 [.int .i64 0]→K (.fn (.func 142) [] [.rp [il l]]) f' 7) :
 CA Tryz.prog 69 [il l] f 6 K:=by
 have hMf:=fun g R=>frdL_ro g R M hM
 have hTf:=fun g R=>frdL_ro g R TC hTC
 have hsr:=dN l
 unfold il at hK ⊢
 generalize l.map Sg.av=U at *
 refine CA.frz [6] (CA.pad 7 ?_)
 refine Cz Tryz.func69 rfl [.tmp 2] rfl ?_
 simp -implicitDefEqProofs [go_sem,hsr]
 refine ⟨1,.sl 8 false U,by simp -implicitDefEqProofs [go_sem],by simp -implicitDefEqProofs [go_sem,AV.cells,hsr],?_⟩
 simp -implicitDefEqProofs [go_sem,AV.cells]
 refine hK _ ?_ ?_ ?_ ?_ ?_ ?_<;>simp -implicitDefEqProofs [go_sem,h0,h1,h2,h3,h4,h5,hMf,hTf]
theorem ri (f:Nat→BS):∀a b:List AV,viewL f (a++b)=viewL f a++viewL f b
 | [],b=>rfl
 | x::a,b=>by simp only [List.cons_append,viewL,ri f a b]
theorem qi (f:Nat→BS):∀a b:List AV,fitsL f (a++b)↔fitsL f a∧fitsL f b
 | [],b=>by simp [fitsL]
 | x::a,b=>by simp only [List.cons_append,fitsL,qi f a b,and_assoc]
theorem x7 {P:Program} {z:Bool} {ne:Nat} {Q:AEx→St→Prop} {k:List Itm} {t:Nat→AV} {f:Nat→BS} {n:Nat} {g:FuncId} {args:List AV} {d:Option Tmp} (b:Nat) (r:AV) (h1:∀K:AV→(Nat→BS)→Nat→Prop,(∀f',(∀j,j≠b→f' j=f j)→K r f' n)→CA P g args f n K) (h2:∀f',(∀j,j≠b→f' j=f j)→go P z ne Q k (aG t d r) f' n):zM P z ne Q g args d k t f n:=h1 _ h2
theorem t_ {b j:Nat} {f:Nat→BS} (h:j≠b):mK [b] f j=f j:=by rw [oD,if_neg (by simpa using h)]
theorem oH (l:List Sg) (m:MR) (tol:RQ) (hl:l.length≤9223372036854775807) (hm:m.In 6) (ht:tol.In 1024) (hO:bL l→0<tol.val→l.length≤12∧∀i (b:Bool),OkS m.val tol.val ⟨(cC (l.take i)).cur.x,(cC (l.take i)).cur.y,(cC (l.take i)).cur.l,b⟩) :
 ab Tryz.prog 16 [il l,m.av,tol.av] (si (dL l m.val tol.val)):=by
 have g1:=pR l hl
 have g2:=dO tol ht.sm.ok
 have z2:=iC (x:=tol.val)
 have kpt:=fun (u:Sub) (h:OkS m.val tol.val u) (h0:0<tol.val)=>sC u m tol h.len h.f1 h.ok hm ht h0
 have hX':dL l m.val tol.val=if ¬bL l then ([],11) else if tol.val≤0 then ([],1) else (dM l m.val tol.val,0):=rfl
 generalize dL l m.val tol.val=X at *
 have htv:=tol.val
 have mro:=m.ro_cs
 have mlen:m.cs.length=18:=rfl
 have mtk:m.cs.take 18=m.cs:=rfl
 have hmav:m.av = .agg m.cs:=rfl
 have htav:tol.av = .agg tol.cells:=rfl
 have tro:roL tol.cells:=by have:=yH tol; rw [htav] at this; simpa only [ro] using this
 have tlen:tol.cells.length=3:=rfl
 have ttk:tol.cells.take 3=tol.cells:=rfl
 have sro:=sN l
 simp only [hmav,htav] at kpt g2 ⊢
 refine ab.of_ca (Fd _) (Cz Tryz.func16 rfl [.cell 6 32,.cell 7 33] rfl ?_)
 generalize hM:m.cs=M at *
 generalize hT:tol.cells=TC at *
 simp -implicitDefEqProofs [go_sem,mlen,mtk,mro,tlen,ttk,tro,sro]
 refine ai _ g1 (by simp [go_sem,sro]) ?_
 by_cases a1:bL l
 rotate_left
 ·rw [if_pos a1] at hX'
  rw [hX']
  simp -implicitDefEqProofs [go_sem,a1,aS]
  exact yg 11
 rw [if_neg (fun h=>h a1)] at hX'
 simp -implicitDefEqProofs [go_sem,a1,tlen,ttk]
 refine ai _ g2 (by simp [go_sem,tro]) ?_
 by_cases a2:cP tol.val≤0
 ·rw [if_pos (z2.1 a2)] at hX'
  rw [hX']
  simp -implicitDefEqProofs [go_sem,a2,aS]
  exact yg 1
 have h0:0<tol.val:=by have:=fun h=>a2 (z2.2 h); grind
 rw [if_neg (by grind)] at hX'
 obtain ⟨hl12,hOk⟩:=hO a1 h0
 simp -implicitDefEqProofs [go_sem,a2,sro]
 refine EI l M TC mro tro _ _ (by simp -implicitDefEqProofs [go_sem]) (by simp -implicitDefEqProofs [go_sem]) (by simp -implicitDefEqProofs [go_sem]) (by simp -implicitDefEqProofs [go_sem]) (by simp -implicitDefEqProofs [go_sem]) (by simp -implicitDefEqProofs [go_sem]) fun f' f0 f1 f2 f3 f4 f5=>?_
 simp -implicitDefEqProofs [go_sem]
 refine ⟨⟨_,_,rfl,rfl,by kernel_rfl⟩,fun r hR=>?_⟩
 generalize hTT:cut 7 _=T at hR ⊢
 have t4:T 4 = .ptr 0 0 0:=by rw [←hTT]; simp -implicitDefEqProofs [go_sem]
 have t5:T 5 = .ptr 1 0 0:=by rw [←hTT]; simp -implicitDefEqProofs [go_sem]
 have t6:T 6 = .ptr 2 0 0:=by rw [←hTT]; simp -implicitDefEqProofs [go_sem]
 have t7:T 7 = .ptr 3 0 0:=by rw [←hTT]; simp -implicitDefEqProofs [go_sem]
 have t8:T 8 = .ptr 4 0 0:=by rw [←hTT]; simp -implicitDefEqProofs [go_sem]
 have t9:T 9 = .ptr 5 0 0:=by rw [←hTT]; simp -implicitDefEqProofs [go_sem]
 clear hTT
 obtain ⟨Vf,hVf⟩:∃Vf:List Sub→List AV,Vf=fun D=>(D.map (ly m.val tol.val)).map jH:=⟨_,rfl⟩
 have hVr:∀D,roL (Vf D):=fun D=>by rw [hVf]; exact lf _
 have hVl:∀D,(Vf D).length=D.length:=fun D=>by rw [hVf]; simp
 have hV0:Vf []=[]:=by rw [hVf]; rfl
 have hVs:∀D u,Vf (D++[u])=Vf D++[jH (ly m.val tol.val u)]:=fun D u=>by rw [hVf]; simp only [List.map_append,List.map_cons,List.map_nil]
 have hVe:(dM l m.val tol.val).map jH=Vf (aU l):=by rw [hVf]; rfl
 have hVn:∀D,Vf D=[]→D=[]:=fun D h=>by have:=hVl D; rw [h] at this; exact List.length_eq_zero_iff.1 this.symm
 clear hVf
 refine Fj l (by omega) (fun h=>a1.2.2.1 _ (by rw [List.head?_eq_getElem?,List.getElem?_eq_getElem h]; rfl)) a1.2.2.2.1 (OkS m.val tol.val) (fun i b _ _=>hOk i b) 7 8 (by omega) _ _ (fun D=>Ex M TC (Vf D) (ic m.val tol.val D:Nat) r T) (fun D=>∀u∈D,OkS m.val tol.val u) (fun u h=>by cases h) (fun D=>G3) (fun D=>Ey mro tro (hVr D)) ?_ (fun D u a f n b K' hok hu hD hS hH hb hbn hTt hF=>?_) (fun a f n hok hH=>?_)
 ·intro p hp
  have hcM:=cloL_ro (n:=8) _ mro
  have hcT:=cloL_ro (n:=8) _ tro
  rw [hV0] at hp
  unfold Ex at hp
  simp only [dZ,if_true,List.append_nil,List.mem_cons,List.not_mem_nil,or_false] at hp
  rcases hp with rfl|rfl|rfl|rfl|rfl|rfl|rfl<;>simp -implicitDefEqProofs [go_sem,f0,f1,f2,f3,f4,f5,hcM,hcT,b9,ic]
 ·refine YA.of_fresh fun hfr=>?_
  obtain ⟨f0,f1,f2,f3,f4,f5,f7,fa⟩:=(rW mro tro (hVr D)).1 hH
  have hfn:=(hfr n).2 (Nat.le_refl _)
  have hn:∀j,f j ≠ .fresh→j<n:=fun j hj=>by
   rcases Nat.lt_or_ge j n with h|h
   ·exact h
   ·exact absurd ((hfr j).2 h) hj
  have hn7:=hn 7 (by rw [f7]; simp)
  have kp:=kpt u hu h0
  have hVD:=hVs D u
  have hTD:=rd m.val tol.val D u
  have hok':∀v∈D++[u],OkS m.val tol.val v:=fun v hv=>by
   rcases List.mem_append.1 hv with h|h
   ·exact hok v h
   ·rw [List.mem_singleton.1 h]; exact hu
  have hle:=s7 h0 hok'
  rw [List.length_append,List.length_singleton] at hle
  have hUr:=dN u.l
  unfold HJ il at kp
  unfold yA
  have hUn:u.l≠[]↔u.l.map Sg.av≠[]:=by simp
  rw [hUn] at hb
  generalize u.l.map Sg.av=U at *
  obtain ⟨W,hW⟩:∃W,W=Vf D:=⟨_,rfl⟩
  have hWr:=hVr D
  have hWl:=hVl D
  rw [←hW] at f4 fa hWr hWl hVD
  have hsb:ly m.val tol.val u=(bz (dE m.val tol.val u) u.closed,u.closed):=rfl
  rw [hsb] at hVD hTD
  simp only at hTD
  generalize hcc:bz (dE m.val tol.val u) u.closed=c at *
  refine hR _ _ _ _ rfl f7 hn7 ?_
  have n0:¬n=0:=by omega
  have n0':¬0=n:=by omega
  have n1:¬n=1:=by omega
  have n1':¬1=n:=by omega
  have n2:¬n=2:=by omega
  have n2':¬2=n:=by omega
  have n3:¬n=3:=by omega
  have n3':¬3=n:=by omega
  have n4:¬n=4:=by omega
  have n4':¬4=n:=by omega
  have n5:¬n=5:=by omega
  have n5':¬5=n:=by omega
  have n7:¬n=7:=by omega
  have n7':¬7=n:=by omega
  have l6:(pC u.f).length=6:=rfl
  have l8:∀x y:AV,(pC u.f++[x,y]).take 8=pC u.f++[x,y]:=fun x y=>rfl
  have d7:∀x y:AV,(pC u.f++[x,y]).drop 7=[y]:=fun x y=>rfl
  simp -implicitDefEqProofs [go_sem,t4,t5,t6,t7,t8,t9,n0,n0',n1,n1',n2,n2',n3,n3',n4,n4',n5,n5',n7,n7',f0,f1,f2,f3,f4,f5,f7,mlen,mtk,tlen,ttk,l6,l8]
  refine x7 b (.tup [pL c,.int .i64 0]) (fun K hK=>?_) fun f' hf'=>?_
  ·by_cases hUe:U=[]
   ·subst hUe
    exact CA.of_pure_ro (kp.args (.cons (Wk.agg (.cons (Wk.refl _) (.cons (Wk.refl _) (.cons (Wk.refl _) (.cons (Wk.refl _) (.cons (Wk.refl _) (.cons (Wk.refl _) (.cons (Wk.nil 0 8 true) (.cons (Wk.refl _) .nil))))))))) (.cons (Wk.refl _) (.cons (Wk.refl _) .nil)))) (by simp -implicitDefEqProofs [go_sem,mro,tro,aB]) (hK _ fun j hj=>rfl)
   ·obtain ⟨b1,b2,b3⟩:=hb hUe
    have b4:¬b=n:=by omega
    have b7:¬b=7:=by omega
    have eC:∀x y:AV,pC u.f++[x,y]=(pC u.f++[x])++[y]:=fun x y=>rfl
    refine CA.of_pure_dead [b] kp ?_ ?_ ?_ ?_ (hK _ fun j hj=>t_ hj)
    ·simp -implicitDefEqProofs [go_sem,aN hUe,b1,b4,b7,ri,viewL_ro _ _ mro,viewL_ro _ _ tro]
    ·simp -implicitDefEqProofs [go_sem,hUr,mro,tro,aB]
    ·simp -implicitDefEqProofs [go_sem,aN hUe,b1,b4,b7,qi,fitsL_ro _ _ (gZ u.f),fitsL_ro _ _ mro,fitsL_ro _ _ tro,fitsL_ro _ _ hUr]
    ·simp -implicitDefEqProofs [go_sem,b1,b4,b7]
  have q0:=(hf' 0 (by omega)).trans (by simp -implicitDefEqProofs [go_sem,n0,n0',f0]:_=BS.live 18 [.agg M])
  have q1:=(hf' 1 (by omega)).trans (by simp -implicitDefEqProofs [go_sem,n1,n1',f1]:_=BS.live 3 [.agg TC])
  have q2:=(hf' 2 (by omega)).trans (by simp -implicitDefEqProofs [go_sem,n2,n2',f2]:_=BS.live 1 [.sl 0 true []])
  have q3:=(hf' 3 (by omega)).trans (by simp -implicitDefEqProofs [go_sem,n3,n3',f3]:_=BS.live 1 [.int .i64 0])
  have q4:=(hf' 4 (by omega)).trans (by simp -implicitDefEqProofs [go_sem,n4,n4',f4]:_=BS.live 1 [b9 2 a W])
  have q5:=(hf' 5 (by omega)).trans (by simp -implicitDefEqProofs [go_sem,n5,n5',f5]:_=BS.live 1 [.int .i64 (ic m.val tol.val D:Nat)])
  have q7:=(hf' 7 (by omega)).trans (by simp -implicitDefEqProofs [go_sem,n7,n7',f7]:_=BS.obj (.loop (eg r)) T)
  have qn:=(hf' n (by omega)).trans (by simp -implicitDefEqProofs [go_sem,n7]:_=BS.live 8 [.agg (pC u.f++[b9 8 b U,.bool u.closed])])
  have htl:ic m.val tol.val (D++[u])≤1048576:=by omega
  generalize ic m.val tol.val D=tm at *
  generalize ic m.val tol.val (D++[u])=tn at *
  have wm:IntKind.i64.wrap ((tm:Int)+c.length)=(tn:Int):=by rw [bO (by omega)]; omega
  have wle:¬(1048576:Int)<(tn:Int):=by omega
  have wl3:(tn:Int)≤1048576:=by omega
  have apl:∀v,(b9 2 a W).lay 0 [v]=v:=fun v=>by unfold b9; split<;>rfl
  have apc:(b9 2 a W).cells=[b9 2 a W]:=by unfold b9; split<;>rfl
  unfold pL
  simp -implicitDefEqProofs [go_sem,t4,t5,t6,t7,t8,t9,q0,q1,q2,q3,q4,q5,q7,qn,n0,n0',n1,n1',n2,n2',n3,n3',n4,n4',n5,n5',n7,n7',wm,wle,wl3,apc,apl,d7]
  have b0:a<n∨W=[]:=by
   by_cases h:W=[]
   ·exact .inr h
   ·exact .inl (hn a (by rw [(fa h).1]; simp))
  have hfa:W≠[]→¬a=n∧¬a=n+1∧¬a=7∧¬a=b∧f' a = .live 2 W∧¬a=5∧¬a=4∧¬a=3∧¬a=2∧¬a=1∧¬a=0:=fun h=>by
   obtain ⟨g1,g2,g3,g4,g5,g6,g7,g8⟩:=fa h
   have h1:=hn a (by rw [g1]; simp)
   exact ⟨by omega,by omega,g8,by omega,(hf' a (by omega)).trans (by simp -implicitDefEqProofs [go_sem,g8,show ¬a=n by omega,g1]),g7,g6,g5,g4,g3,g2⟩
  refine bf (.inl rfl) (by omega) (by omega) (by simp -implicitDefEqProofs [go_sem]) (by simp<;>omega) (fun h=>by
   obtain ⟨g1,g2,g3,g4,g5,g6,_⟩:=hfa h
   simp -implicitDefEqProofs [go_sem,g1,g2,g5,g6]) ?_
  have hkk:∀(G:Nat→BS) (j:Nat),(W≠[]→j≠a)→kill a W G j=G j:=fun G j h=>by
   unfold kill
   split
   ·rfl
   ·rename_i h0; exact ac _ _ _ (h h0)
  have k0:=fun G=>hkk G 0 fun h=>by have:=hfa h; omega
  have k1:=fun G=>hkk G 1 fun h=>by have:=hfa h; omega
  have k2:=fun G=>hkk G 2 fun h=>by have:=hfa h; omega
  have k3:=fun G=>hkk G 3 fun h=>by have:=hfa h; omega
  have k4:=fun G=>hkk G 4 fun h=>by have:=hfa h; omega
  have k5:=fun G=>hkk G 5 fun h=>by have:=hfa h; omega
  have k7:=fun G=>hkk G 7 fun h=>by have:=hfa h; omega
  have aps:b9 2 (n+1+1) (W++[.agg [.sl 6 false (c.map pA),.bool u.closed]]) = .own 2 (n+1+1) 0 (W.length+1):=by rw [aN (by simp),List.length_append]; rfl
  have p0:∀i,i≤7→(¬i=n+1)∧¬i=n+1+1:=fun i hi=>by omega
  simp -implicitDefEqProofs [go_sem,t8,k4,k7,q4,q7,p0 4 (by omega),p0 7 (by omega),n4,n4',n7,n7',apl,apc]
  refine hTt (n+1+1) _ _ hok' ((rW mro tro (hVr _)).2 ?_) (fun cc h1 h2 h3 h4=>⟨?_,by omega⟩)
  ·rw [hVD,show jH (c,u.closed) = .agg [.sl 6 false (c.map pA),.bool u.closed] from rfl,aps]
   refine ⟨by simp -implicitDefEqProofs [go_sem,k0,q0,p0,n0],by simp -implicitDefEqProofs [go_sem,k1,q1,p0,n0],by simp -implicitDefEqProofs [go_sem,k2,q2,p0,n0],by simp -implicitDefEqProofs [go_sem,k3,q3,p0,n0],by simp -implicitDefEqProofs [go_sem,p0,n0],by simp -implicitDefEqProofs [go_sem,k5,q5,p0,n0],by simp -implicitDefEqProofs [go_sem,bv],fun h=>⟨by simp -implicitDefEqProofs [go_sem,show ¬n+1+1=4 by omega,show ¬n+1+1=7 by omega],by omega,by omega,by omega,by omega,by omega,by omega,by omega⟩⟩
  ·simp -implicitDefEqProofs [go_sem,show ¬cc=7 by omega,show ¬cc=4 by omega,show ¬cc=n+1+1 by omega,hkk _ cc (fun _=>h3),show ¬cc=n+1 by omega,show ¬cc=5 by omega]
   exact (hf' cc h4).trans (by simp -implicitDefEqProofs [go_sem,show ¬cc=n by omega,show ¬cc=7 by omega])
 ·obtain ⟨f0,f1,f2,f3,f4,f5,f7,fa⟩:=(rW mro tro (hVr _)).1 hH
  refine ⟨.normal,by simp -implicitDefEqProofs [go_sem,f7,bv],?_⟩
  rw [hX']
  unfold si kg
  simp only [hVe]
  have hVrs:=hVr (aU l)
  generalize Vf (aU l)=W at *
  by_cases hW:W=[]
  ·subst hW
   have f4':f 4 = .live 1 [.sl 0 true []]:=f4
   simp -implicitDefEqProofs [go_sem,f2,f3,f4',aS]
   exact Wk.tup (.cons (Wk.nil 0 2 true) (.cons (Wk.refl _) .nil))
  ·obtain ⟨g1,g2,g3,g4,g5,g6,g7,g8⟩:=fa hW
   rw [aN hW] at f4
   simp -implicitDefEqProofs [go_sem,f2,f3,f4,g1,g2,g3,g4,g5,g6,g7,g8,hVrs,aS]
   exact Wk.refl _
end Go.Proofs.YtdnmfaljidjijaaGreat
