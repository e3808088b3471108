import Derived.Test.YtdnmfaljidjijaaGreatPk05
import Derived.ProofKit
import Derived.Carry
namespace Go.Proofs.YtdnmfaljidjijaaGreat
open Go Go.Proofs
set_option linter.unusedSimpArgs false
set_option linter.unusedVariables false
set_option maxRecDepth 20000
def yu (y:Rat) (e:PQ×PQ):Int:=if e.1.y≤y∧y<e.2.y then 1 else if y<e.1.y∧e.2.y≤y then -1 else 0
def Aa (y:Rat) (p:PQ):Int:=if y<p.y then 1 else 0
theorem Bl (y:Rat) (a b:PQ):yu y (a,b)=Aa y b-Aa y a:=by
 unfold yu Aa
 simp only
 by_cases h1:y<a.y<;>by_cases h2:y<b.y
 ·rw [if_neg (by grind),if_neg (by grind),if_pos h1,if_pos h2]; rfl
 ·rw [if_neg (by grind),if_pos ⟨h1,by grind⟩,if_pos h1,if_neg h2]; rfl
 ·rw [if_pos ⟨by grind,h2⟩,if_neg h1,if_pos h2]; rfl
 ·rw [if_neg (by grind),if_neg (by grind),if_neg h1,if_neg h2]; rfl
def cq (y:Rat):List (PQ×PQ)→Int
 | []=>0
 | e::L=>yu y e+cq y L
theorem jT (y:Rat):∀a b,cq y (a++b)=cq y a+cq y b
 | [],b=>by simp only [List.nil_append,cq]; omega
 | e::a,b=>by simp only [List.cons_append,cq]; rw [jT y a b]; omega
theorem jp (y:Rat):∀L:List (PQ×PQ),cq y (L.filter fun e=>decide (e.1.y≠e.2.y))=cq y L
 | []=>rfl
 | e::L=>by
  by_cases h:e.1.y=e.2.y
  ·have hz:yu y e=0:=by
    unfold yu
    rw [if_neg (by grind),if_neg (by grind)]
   rw [List.filter_cons_of_neg (by simpa using h)]
   simp only [cq]
   rw [hz,jp y L]; omega
  ·rw [List.filter_cons_of_pos (by simpa using h)]
   simp only [cq]
   rw [jp y L]
theorem sC (y:Rat) (P:Nat→PQ) (n:Nat):∀k,k+1≤n→cq y ((List.range k).map fun i=>(P i,P ((i+1)%n)))=Aa y (P k)-Aa y (P 0)
 | 0,_=>by simp only [List.range_zero,List.map_nil,cq]; omega
 | k+1,hk=>by
  rw [List.range_succ,List.map_append,jT,sC y P n k (by omega)]
  simp only [List.map_cons,List.map_nil,cq]
  rw [Bl,Nat.mod_eq_of_lt (by omega)]
  omega
theorem AN (y:Rat) (l:List PQ):cq y (iq l)=0:=by
 unfold iq
 rw [jp]
 rcases Nat.eq_zero_or_pos l.length with h|h
 ·rw [h]; rfl
 ·obtain ⟨k,hk⟩:∃k,l.length=k+1:=⟨l.length-1,by omega⟩
  rw [hk,List.range_succ,List.map_append,jT,sC y (fun i=>l.getD i ⟨0,0⟩) (k+1) k (Nat.le_refl _)]
  simp only [List.map_cons,List.map_nil,cq]
  rw [Bl,Nat.mod_self]
  omega
theorem CP (l:List PQ):∀e∈iq l,e.1.y≠e.2.y:=fun e he=>by
 have:=(List.mem_filter.1 he).2
 simpa using this
open Go.ChangeShapes Go.WideShapes Go.ChangeAt Go.RowKit
theorem Ch {P:Program} {W:World} {r:Reach} {b:Nat} {t:TypeId} {k:IntKind} {v:Value} (ht:P.underlying t=some (.int k)) (h:Value.okWide P W r b t v):v.cells = #[v]:=by
 unfold Value.okWide at h
 rw [ht] at h
 cases v<;>first|rfl|(simp [Cell.okWide,Cell.ok,ht] at h; done)
theorem qs {E k:Nat} {a:Rat} (ha:∃z:Int,a*(E:Rat)=z):∃z:Int,a*((k*E:Nat):Rat)=z:=by
 obtain ⟨x,hx⟩:=ha
 refine ⟨k*x,?_⟩
 have e:((k*E:Nat):Rat)=(k:Rat)*(E:Rat):=by norm_cast
 have e2:(((k:Int)*x:Int):Rat)=(k:Rat)*(x:Rat):=by norm_cast
 rw [e,e2,←hx]
 grind
theorem Pz.up {E:Nat} {a:HQ} (k:Nat) (ha:Pz E a):Pz (k*E) a:=⟨qs ha.x,qs ha.y,qs ha.w⟩
theorem mM {Q R:HQ→Prop} (hQ:∀a b,Q a→Q b→R (a.mid b)):∀ {l:List HQ},(∀x∈l,Q x)→∀x∈ij l,R x
 | [],_,x,hx=>by simp [ij] at hx
 | [_],_,x,hx=>by simp [ij] at hx
 | a::b::r,h,x,hx=>by
  simp only [ij,List.mem_cons] at hx
  rcases hx with rfl|hx
  ·exact hQ a b (h a (by simp)) (h b (by simp))
  ·exact mM hQ (l:=b::r) (fun y hy=>h y (by simp at hy ⊢; exact .inr hy)) x hx
theorem vN {E:Nat} {v:List HQ} (h:∀x∈v,Pz E x):∀i,∀x∈dV i v,Pz (2 ^ i*E) x
 | 0=>fun x hx=>by have:=h x hx; simpa using this
 | i+1=>fun x hx=>by
  have:=mM (R:=fun x=>Pz (2 ^ (i+1)*E) x) (fun a b ha hb=>by have:=Pz.mid ha hb; rwa [show 2 ^ (i+1)*E=2*(2 ^ i*E) by rw [Nat.pow_succ]; simp only [Nat.mul_assoc,Nat.mul_left_comm,Nat.mul_comm]]) (vN h i)
  exact this x hx
theorem D5 {E:Nat} {v:List HQ} (hl:v.length≤4) (h:∀x∈v,Pz E x):(∀x∈bk v.length v,Pz (8*E) x)∧∀x∈bm v.length v,Pz (8*E) x:=by
 obtain ⟨h1,h2⟩:=pF (l:=v) v.length (Nat.le_refl _)
 have key:∀i,i<v.length→∀x∈dV i v,Pz (8*E) x:=fun i hi x hx=>by
  have:=vN h i x hx
  rcases (by omega:i=0∨i=1∨i=2∨i=3) with rfl|rfl|rfl|rfl
  ·have:=this.up 8; simpa using this
  ·have:=this.up 4; rwa [show 4*(2 ^ 1*E)=8*E by omega] at this
  ·have:=this.up 2; rwa [show 2*(2 ^ 2*E)=8*E by omega] at this
  ·exact this
 exact ⟨fun x hx=>by obtain ⟨i,hi,hh⟩:=h1 x hx; exact key i hi x hh,fun x hx=>by obtain ⟨i,hi,hh⟩:=h2 x hx; exact key i hi x hh⟩
theorem yU (x:Rat) {E:Nat} (h:x.den ∣ E):∃z:Int,x*(E:Rat)=z:=by
 obtain ⟨k,rfl⟩:=h
 refine ⟨x.num*k,?_⟩
 have e:((x.den*k:Nat):Rat)=(x.den:Rat)*(k:Rat):=by norm_cast
 have e2:((x.num*(k:Int):Int):Rat)=(x.num:Rat)*(k:Rat):=by norm_cast
 rw [e,e2,←Rat.mul_assoc]
 congr 1
 have h1:=Rat.mkRat_self x
 rw [Rat.mkRat_eq_div] at h1
 have h2:(x.den:Rat)≠0:=by exact_mod_cast x.den_nz
 generalize (x.den:Rat)=d at *
 generalize (x.num:Rat)=n at *
 grind
theorem IX {a b:HQ} (ha:a.w≤64) (hb:b.w≤64):(a.mid b).w≤64:=by unfold HQ.mid aU eR; simp only; grind
theorem uk {v:List HQ} (h:∀x∈v,x.w≤64):∀i,∀x∈dV i v,x.w≤64
 | 0=>h
 | i+1=>mM (fun a b ha hb=>IX ha hb) (uk h i)
theorem Ho {v:List HQ} (h:∀x∈v,x.w≤64):(∀x∈bk v.length v,x.w≤64)∧∀x∈bm v.length v,x.w≤64:=by
 obtain ⟨h1,h2⟩:=pF (l:=v) v.length (Nat.le_refl _)
 exact ⟨fun x hx=>by obtain ⟨i,hi,hh⟩:=h1 x hx; exact uk h i x hh,fun x hx=>by obtain ⟨i,hi,hh⟩:=h2 x hx; exact uk h i x hh⟩
theorem Bi {tol:Rat} (ht:1 / 64≤tol) {n:Nat}:∀(k:Nat) {e:Rat} {E:Nat} {v:List HQ},Cv e v→0≤e→e≤4 ^ k / 268435456→0<E→(∀h∈v,Pz E h)→(∀h∈v,h.w≤64)→nl (8 ^ k*E)+1≤n→Tr tol n k v
 | 0,e,E,v,hv,h0,he,hE,hz,hw,hn=>⟨⟨hv.good,fun h hh=>Nat.le_trans (Pb.sz hE ⟨hz h hh,hv.box h hh,hw h hh⟩) (by simpa using hn)⟩,hv.flat h0 (by simpa using he) ht⟩
 | k+1,e,E,v,hv,h0,he,hE,hz,hw,hn=>by
  have hm:nl E≤nl (8 ^ (k+1)*E):=c9 (Nat.le_mul_of_pos_left _ (Nat.pow_pos (by omega)))
  refine ⟨⟨hv.good,fun h hh=>Nat.le_trans (Pb.sz hE ⟨hz h hh,hv.box h hh,hw h hh⟩) (by omega)⟩,fun _=>?_⟩
  obtain ⟨c1,c2⟩:=hv.cut
  obtain ⟨z1,z2⟩:=D5 hv.good.2.2 hz
  obtain ⟨w1,w2⟩:=Ho hw
  have he':e / 4≤4 ^ k / 268435456:=by
   have:(4:Rat) ^ (k+1)=4 ^ k*4:=by rw [Rat.pow_succ]
   rw [this] at he
   grind
  have hn':nl (8 ^ k*(8*E))+1≤n:=by rw [←Nat.mul_assoc,←Nat.pow_succ]; exact hn
  exact ⟨Bi ht k c1 (by grind) he' (by omega) z1 w1 hn',Bi ht k c2 (by grind) he' (by omega) z2 w2 hn'⟩
theorem wJ {a b c:HQ} (ha:Bx a) (hb:Bx b) (hc:Bx c) (wa:a.w≤64) (wb:b.w≤64) (wc:c.w≤64):D2 1 a b c:=by
 obtain ⟨⟨a1,a2⟩,⟨a3,a4⟩,a5⟩:=ha
 obtain ⟨⟨b1,b2⟩,⟨b3,b4⟩,b5⟩:=hb
 obtain ⟨⟨c1,c2⟩,⟨c3,c4⟩,c5⟩:=hc
 exact ⟨⟨by grind,by grind⟩,⟨by grind,by grind⟩,⟨by grind,by grind⟩⟩
theorem Hp {v:List HQ} (hG:cd v) (hb:∀h∈v,Bx h) (hw:∀h∈v,h.w≤64):Cv 1 v:=by
 refine ⟨hG,hb,?_⟩
 clear hG
 match v with
 | []=>trivial
 | [_]=>trivial
 | [_,_]=>trivial
 | a::b::c::r =>
  have key:∀r:List HQ,∀b c,(∀h∈b::c::r,Bx h)→(∀h∈b::c::r,h.w≤64)→d2 1 (b::c::r):=by
   intro r
   induction r with
   | nil=>intros; trivial
   | cons d r ih =>
    intro b c h1 h2
    exact ⟨wJ (h1 b (by simp)) (h1 c (by simp)) (h1 d (by simp)) (h2 b (by simp)) (h2 c (by simp)) (h2 d (by simp)),ih c d (fun h hh=>h1 h (by simp at hh ⊢; exact .inr hh)) (fun h hh=>h2 h (by simp at hh ⊢; exact .inr hh))⟩
  exact key (c::r) a b hb hw
def eI (m:MQ):Nat:=m.a.den*m.b.den*(m.c.den*m.d.den)*(m.e.den*m.f.den)
theorem s_ (x:Rat) {E:Nat} (h:x.den ∣ E):∃z:Int,x*(E:Rat)=z:=yU x h
theorem Ae {a c e:Rat} {D:Nat} (x y w:Int) (ha:a.den ∣ D) (hc:c.den ∣ D) (he:e.den ∣ D) {W:Rat} (hW:W*64=w):∃z:Int,((a*((x:Rat) / 64)+c*((y:Rat) / 64)+e)*W)*((4096*D:Nat):Rat)=z:=by
 obtain ⟨za,ha⟩:=s_ a ha
 obtain ⟨zc,hc⟩:=s_ c hc
 obtain ⟨ze,he⟩:=s_ e he
 refine ⟨(za*x+zc*y+64*ze)*w,?_⟩
 have e1:((4096*D:Nat):Rat)=4096*(D:Rat):=by norm_cast
 have e2:(((za*x+zc*y+64*ze)*w:Int):Rat)=((za:Rat)*x+(zc:Rat)*y+64*(ze:Rat))*(w:Rat):=by norm_cast
 rw [e1,e2,←ha,←hc,←he,←hW]
 grind
theorem Ah (m:MQ):m.a.den ∣ eI m∧m.b.den ∣ eI m∧m.c.den ∣ eI m∧m.d.den ∣ eI m∧m.e.den ∣ eI m∧m.f.den ∣ eI m:=by
 unfold eI
 have k1:m.a.den*m.b.den ∣ m.a.den*m.b.den*(m.c.den*m.d.den)*(m.e.den*m.f.den):=Nat.dvd_trans (Nat.dvd_mul_right _ _) (Nat.dvd_mul_right _ _)
 have k2:m.c.den*m.d.den ∣ m.a.den*m.b.den*(m.c.den*m.d.den)*(m.e.den*m.f.den):=Nat.dvd_trans (Nat.dvd_mul_left _ _) (Nat.dvd_mul_right _ _)
 have k3:m.e.den*m.f.den ∣ m.a.den*m.b.den*(m.c.den*m.d.den)*(m.e.den*m.f.den):=Nat.dvd_mul_left _ _
 exact ⟨Nat.dvd_trans (Nat.dvd_mul_right _ _) k1,Nat.dvd_trans (Nat.dvd_mul_left _ _) k1,Nat.dvd_trans (Nat.dvd_mul_right _ _) k2,Nat.dvd_trans (Nat.dvd_mul_left _ _) k2,Nat.dvd_trans (Nat.dvd_mul_right _ _) k3,Nat.dvd_trans (Nat.dvd_mul_left _ _) k3⟩
theorem Ai (m:MQ):0<eI m:=by
 unfold eI
 exact Nat.mul_pos (Nat.mul_pos (Nat.mul_pos m.a.den_pos m.b.den_pos) (Nat.mul_pos m.c.den_pos m.d.den_pos)) (Nat.mul_pos m.e.den_pos m.f.den_pos)
theorem Ck {m:MQ} (hm:sz m.a≤6∧sz m.b≤6∧sz m.c≤6∧sz m.d≤6∧sz m.e≤6∧sz m.f≤6):nl (eI m)≤36:=by
 have h1:=aN (m.a.den*m.b.den*(m.c.den*m.d.den)) (m.e.den*m.f.den)
 have h2:=aN (m.a.den*m.b.den) (m.c.den*m.d.den)
 have h3:=aN m.a.den m.b.den
 have h4:=aN m.c.den m.d.den
 have h5:=aN m.e.den m.f.den
 have k1:=aR m.a
 have k2:=aR m.b
 have k3:=aR m.c
 have k4:=aR m.d
 have k5:=aR m.e
 have k6:=aR m.f
 unfold eI
 omega
theorem DN {m:MQ} {x y w:Int} {W:Rat} (hW:W*64=w):Pz (4096*eI m) (HQ.wt (m.app (aG x y)) W):=by
 obtain ⟨da,db,dc,dd,de,df⟩:=Ah m
 refine ⟨Ae x y w da dc de hW,Ae x y w db dd df hW,?_⟩
 refine ⟨w*(64*eI m:Nat),?_⟩
 have e1:((4096*eI m:Nat):Rat)=4096*(eI m:Rat):=by norm_cast
 have e2:((w*(64*eI m:Nat):Int):Rat)=(w:Rat)*(64*(eI m:Rat)):=by norm_cast
 show W*((4096*eI m:Nat):Rat)=_
 rw [e1,e2,←hW]
 grind
theorem BD {s:Sg} (hg:s.Good) (i:Nat):(∃w:Int,jb s i*64=w)∧1 / 64≤jb s i∧jb s i≤64:=by
 unfold jb
 split
 ·rename_i h
  have hw:=hg.w
  rw [if_pos h.1] at hw
  refine ⟨⟨s.w,by grind⟩,?_,?_⟩
  ·have:(1:Rat)≤(s.w:Rat):=by exact_mod_cast hw.1
   grind
  ·have h2:(s.w:Rat)≤((4096:Int):Rat):=Rat.intCast_le_intCast.2 hw.2
   have e:((4096:Int):Rat)=4096:=rfl
   grind
 ·exact ⟨⟨64,by grind⟩,by grind,by grind⟩
theorem DM {p:PQ} {W:Rat} (hx:Wi 64 p.x) (hy:Wi 64 p.y) (h1:1 / 64≤W) (h2:W≤64):Bx (HQ.wt p W):=by
 obtain ⟨x1,x2⟩:=hx
 obtain ⟨y1,y2⟩:=hy
 have hw:0≤W:=by grind
 have:=Rat.mul_nonneg (show 0≤64-p.x by grind) hw
 have:=Rat.mul_nonneg (show 0≤64+p.x by grind) hw
 have:=Rat.mul_nonneg (show 0≤64-p.y by grind) hw
 have:=Rat.mul_nonneg (show 0≤64+p.y by grind) hw
 exact ⟨⟨by unfold HQ.wt; simp only; grind,by unfold HQ.wt; simp only; grind⟩,⟨by unfold HQ.wt; simp only; grind,by unfold HQ.wt; simp only; grind⟩,h1⟩
theorem Iw {m:MQ} {s:Sg} (h:Ps m s) {i:Nat} (hi:i≤2):Pn m (s.v (2*i)) (s.v (2*i+1)):=by
 obtain ⟨h0,h1,h2⟩:=h
 rcases (by omega:i=0∨i=1∨i=2) with rfl|rfl|rfl
 ·exact h0
 ·exact h1
 ·exact h2
theorem EP {m:MQ} {tol:Rat} {x y:Int} {s:Sg} (hm:sz m.a≤6∧sz m.b≤6∧sz m.c≤6∧sz m.d≤6∧sz m.e≤6∧sz m.f≤6) (ht:1 / 16≤tol) (hg:s.Good) (h1:s.k≠1) (h6:s.k≠6) (hf:Pn m x y) (hz:(aG x y).sz≤1) (hs:Ps m s):OkP m tol (aG x y) s:=by
 have k2:2≤s.k:=by have:=hg.k1; omega
 have k5:s.k≤5:=by have:=hg.k6; omega
 have hall:∀h∈cC (aG x y) s m,Pz (4096*eI m) h∧Bx h∧h.w≤64:=fun h hh=>by
  unfold cC at hh
  rcases List.mem_cons.1 hh with rfl|hh
  ·exact ⟨DN (w:=64) (by grind),DM hf.1 hf.2 (by grind) (by grind),by unfold HQ.wt; simp only; grind⟩
  ·obtain ⟨i,hi,rfl⟩:=List.mem_map.1 hh
   have hi:=List.mem_range.1 hi
   obtain ⟨⟨w,hw⟩,w1,w2⟩:=BD hg i
   have hp:=Iw hs (i:=i) (by have:=nd s.k; omega)
   exact ⟨DN hw,DM hp.1 hp.2 w1 w2,w2⟩
 have hlen:=lJ (aG x y) s m
 have hpl:=nd s.k
 have hp1:1≤iQ s.k:=by
  rcases (by omega:s.k=2∨s.k=3∨s.k=4∨s.k=5) with h|h|h|h<;>rw [h]<;>decide
 have hG:cd (cC (aG x y) s m):=⟨fun h hh=>by have:=(hall h hh).2.1.w; grind,by omega,by omega⟩
 have hE:0<4096*eI m:=by have:=Ai m; omega
 have hn:nl (8 ^ 14*(4096*eI m))+1≤51:=by
  have a1:=aN (8 ^ 14) (4096*eI m)
  have a2:=aN 4096 (eI m)
  have a3:nl (8 ^ 14)≤1:=mR (by omega)
  have a4:nl 4096≤1:=mR (by omega)
  have a5:=Ck hm
  omega
 have hT:=Bi (tol:=tol) (by grind) 14 (Hp hG (fun h hh=>(hall h hh).2.1) (fun h hh=>(hall h hh).2.2)) (by grind) (by decide +kernel) hE (fun h hh=>(hall h hh).1) (fun h hh=>(hall h hh).2.2) hn
 exact ⟨hg,h1,h6,hz,hT.good.2,hT⟩
theorem BI {m:MQ} {s:Sg} (hg:s.Good) (hs:Ps m s):∃x y:Int,dI s=aG x y∧Pn m x y∧(aG x y).sz≤1:=by
 unfold dI
 split
 ·exact ⟨_,_,rfl,hs.1,cP (hg.i64 (by omega)) (hg.i64 (by omega))⟩
 ·split
  ·exact ⟨_,_,rfl,hs.2.2,cP (hg.i64 (by omega)) (hg.i64 (by omega))⟩
  ·exact ⟨_,_,rfl,hs.2.1,cP (hg.i64 (by omega)) (hg.i64 (by omega))⟩
theorem Ax {m:MQ} {tol:Rat} (hm:sz m.a≤6∧sz m.b≤6∧sz m.c≤6∧sz m.d≤6∧sz m.e≤6∧sz m.f≤6) (ht:1 / 16≤tol):∀(l:List Sg) (x y:Int),Pn m x y→(aG x y).sz≤1→(∀s∈l,s.Good∧s.k≠1∧s.k≠6∧Ps m s)→Bo m tol (aG x y) l
 | [],_,_,_,_,_=>trivial
 | s::r,x,y,h1,h2,h3=>by
  obtain ⟨g,k1,k6,hs⟩:=h3 s (by simp)
  obtain ⟨u,v,e,e1,e2⟩:=BI g hs
  refine ⟨EP hm ht g k1 k6 h1 h2 hs,?_⟩
  rw [e]
  exact Ax hm ht r u v e1 e2 fun z hz=>h3 z (by simp [hz])
section
variable {R:Int→Int→Prop} {S:Sg→Prop}
end
theorem oM {m:MQ} {tol:Rat} {l:List Sg} (hm:sz m.a≤6∧sz m.b≤6∧sz m.c≤6∧sz m.d≤6∧sz m.e≤6∧sz m.f≤6) (ht:1 / 16≤tol) (hl:l.length≤12) (hG:br l) (hs:∀s∈l,Ps m s) (i:Nat) :
 (∀b,OkS m tol ⟨(cL (l.take i)).cur.x,(cL (l.take i)).cur.y,(cL (l.take i)).cur.l,b⟩)∧∀u∈(cL (l.take i)).all,OkS m tol u:=by
 have h00:Pn m 0 0∧(aG 0 0).sz≤1:=by
  have hne:=hG.1
  obtain ⟨a,r,rfl⟩:∃a r,l=a::r:=by
   cases l with
   | nil=>exact absurd rfl hne
   | cons a r=>exact ⟨a,r,rfl⟩
  have hk:=hG.2.2.1 a rfl
  have hg:=hG.2.2.2.1 a (by simp)
  have c2:dZ a.k=2:=by rw [hk]; rfl
  have v4:=(hg.v 4 (by omega)).2.2 (by omega)
  have v5:=(hg.v 5 (by omega)).2.2 (by omega)
  have hp:=(hs a (by simp)).2.2
  rw [v4,v5] at hp
  exact ⟨hp,cP (by omega) (by omega)⟩
 have hc:=uN (R:=fun x y=>Pn m x y∧(aG x y).sz≤1) (S:=fun s=>s.Good∧s.k≠1∧s.k≠6∧Ps m s) (l:=l) h00 (fun s h=>by
  have g:=hG.2.2.2.1 s h
  exact ⟨fun _=>⟨(hs s h).1,cP (g.i64 (by omega)) (g.i64 (by omega))⟩,fun a b=>⟨g,a,b,hs s h⟩⟩) i
 have hlen:(l.take i).length≤12:=by rw [List.length_take]; omega
 have key:∀(x y:Int) (L:List Sg) (b:Bool),(Pn m x y∧(aG x y).sz≤1)→L.length≤(l.take i).length→(∀s∈L,s.Good∧s.k≠1∧s.k≠6∧Ps m s)→OkS m tol ⟨x,y,L,b⟩:=fun x y L b h1 h2 h3=>⟨h1.2,by simp only; omega,Ax hm ht L x y h1.1 h1.2 h3⟩
 refine ⟨fun b=>key _ _ _ b hc.cur.1 hc.cur.2.1 hc.cur.2.2,fun u hu=>?_⟩
 obtain ⟨h1,h2,h3⟩:=hc.all u hu
 exact key u.x u.y u.l u.closed h1 h2 h3
theorem C1 {l:List PQ} {n:Nat} (hs:∀p∈l,p.sz≤n):∀e∈iq l,e.1.sz≤n∧e.2.sz≤n:=fun e he=>by
 unfold iq at he
 obtain ⟨he,_⟩:=List.mem_filter.1 he
 obtain ⟨i,hi,rfl⟩:=List.mem_map.1 he
 have hi:=List.mem_range.1 hi
 have key:∀j,j<l.length→(l.getD j ⟨0,0⟩).sz≤n:=fun j hj=>by
  rw [List.getD_eq_getElem?_getD,List.getElem?_eq_getElem hj]
  exact hs _ (List.getElem_mem hj)
 exact ⟨key _ hi,key _ (Nat.mod_lt _ (by omega))⟩
theorem Bg {L:List (List PQ)} {n:Nat} (hs:∀l∈L,∀p∈l,p.sz≤n):∀e∈bN L,e.1.sz≤n∧e.2.sz≤n:=fun e he=>by
 obtain ⟨l,hl,he⟩:=List.mem_flatMap.1 he
 exact C1 (hs l hl) e he
theorem rH {m:MR} {tol:RQ} {l:List Sg} (hl:l.length≤9223372036854775807) (h:l.length≤12∧m.In 6∧tol.In 1∧(0<tol.val→br l→1 / 16≤tol.val∧∀s∈l,Ps m.val s)) :
 aa Tryz.prog 16 [gH l,m.av,tol.av] (lz (gZ l m.val tol.val))∧(br l→0<tol.val→(aP l m.val tol.val).length≤12∧∀p∈aP l m.val tol.val,p.1.length≤196700∧∀q∈p.1,q.sz≤102):=by
 obtain ⟨h1,h2,h3,h4⟩:=h
 have hmz:sz m.val.a≤6∧sz m.val.b≤6∧sz m.val.c≤6∧sz m.val.d≤6∧sz m.val.e≤6∧sz m.val.f≤6:=⟨h2.a.sz,h2.b.sz,h2.c.sz,h2.d.sz,h2.e.sz,h2.f.sz⟩
 refine ⟨fZ l m tol hl h2 h3.mono fun hG h0=>?_,fun hG h0=>?_⟩
 ·obtain ⟨t1,t2⟩:=h4 h0 hG
  exact ⟨h1,fun i b=>(oM hmz t1 h1 hG t2 i).1 b⟩
 ·obtain ⟨t1,t2⟩:=h4 h0 hG
  have:=(oM hmz t1 h1 hG t2 l.length).2
  rw [List.take_length] at this
  exact je h2 h0 h1 this
theorem Be (y:Rat) (L:List (PQ×PQ)) (e:PQ×PQ):cq y (L++[e])=cq y L+yu y e:=by rw [jT]; simp only [cq]; omega
theorem IN (y:Rat) (e:PQ×PQ) : -1≤yu y e∧yu y e≤1:=by unfold yu; split<;>(try split)<;>omega
theorem Bd (y:Rat):∀L:List (PQ×PQ),-(L.length:Int)≤cq y L∧cq y L≤L.length
 | []=>by simp [cq]
 | e::L=>by
  have h1:=Bd y L
  have h2:=IN y e
  simp only [cq,List.length_cons]
  omega
theorem oe (y:Rat):∀L:List (List PQ),cq y (bN L)=0
 | []=>rfl
 | l::L=>by
  have e:bN (l::L)=iq l++bN L:=rfl
  rw [e,jT,AN,oe y L]; rfl
theorem yZ {L:List (List PQ)}:∀e∈bN L,e.1.y≠e.2.y:=fun e he=>by
 obtain ⟨l,_,he⟩:=List.mem_flatMap.1 he
 exact CP l e he
theorem Cn:(iP aW).Lm:=⟨lf _,lf _,lf _,lf _,lf _,lf _⟩
set_option maxHeartbeats 32000000 in
theorem jm (l:List Sg) (n:Int) (hl:l.length≤9223372036854775807) (hu:(Lit.int .u8 n).wf=true):aa Tryz.prog 5 [gH l,.int .u8 n] (.bool true):=by
 have hn:0≤n∧n≤255:=by simpa [Lit.wf,IntKind.min,IntKind.max,IntKind.signed,IntKind.bits] using hu
 have kw:=lc
 have kone:=kD
 have kof:=dL 1 4 (by omega) (by omega) (by omega)
 have ky:=dL (n*257+1) 16448 (by omega) (by omega) (by omega)
 obtain ⟨y,hy⟩:∃y:Rat,y=(((n*257+1:Int):Rat) / ((16448:Int):Rat)):=⟨_,rfl⟩
 have zy:sz y≤1:=by rw [hy]; exact lQ (by omega) (by omega) (by omega)
 rw [←hy] at ky
 rw [show ((1:Int):Rat) / ((4:Int):Rat)=1 / 4 from rfl] at kof
 have z4:sz (1 / 4:Rat)≤1:=by rw [show (1 / 4:Rat)=Rat.divInt 1 4 from by decide +kernel]; decide +kernel
 obtain ⟨b,kl,hb⟩:=k_ l (iP aW) (qc (1 / 4)) hl Cn (lf _)
 have hsr:=dz l
 have m0:(iP aW).cs.length=18:=rfl
 have m2:=(iP aW).ro_cs
 have m3:(iP aW).cs.take 18=(iP aW).cs:=rfl
 have hr4:=bA (1 / 4)
 have hry:=bA y
 have hl2:=fun h=>rH hl (hb h)
 rw [jC,bp] at hl2
 rw [show (qc (1 / 4)).av=rA (1 / 4) from rfl] at kl hl2
 unfold MR.av at kone kl hl2
 generalize (iP aW).cs=M at *
 unfold gH at *
 generalize l.map Sg.av=V at *
 have w1:IntKind.i64.wrap n=n:=by rw [bC (by omega)]
 have w2:IntKind.i64.wrap (n*257)=n*257:=by rw [bC (by omega)]
 have w3:IntKind.i64.wrap (n*257+1)=n*257+1:=by rw [bC (by omega)]
 refine Pg Tryz.func5 rfl [.tmp 4] rfl (by simp -implicitDefEqProofs [go_sem]) ?_
 simp only [dn] at *
 have lrc:∀x:Rat,(rC x).length=3:=fun _=>rfl
 have trc:∀x:Rat,(rC x).take 3=rC x:=fun _=>rfl
 have drc:∀x:Rat,(rC x).drop 3=[]:=fun _=>rfl
 simp -implicitDefEqProofs [go_sem]
 refine ac kone ?_
 simp -implicitDefEqProofs [go_sem]
 refine ac kof ?_
 simp -implicitDefEqProofs [go_sem,m0,m3,lrc,trc,drc]
 refine an _ kl (by simp [go_sem,hsr,m2]) ?_
 cases b
 ·simp -implicitDefEqProofs [go_sem]
  refine ac kw ?_
  simp -implicitDefEqProofs [go_sem]
 obtain ⟨k2,hf⟩:=hl2 rfl
 simp -implicitDefEqProofs [go_sem,m0,m3,lrc,trc,drc]
 refine an _ k2 (by simp [go_sem,hsr,m2]) ?_
 unfold gZ
 by_cases hG:br l
 rotate_left
 ·rw [if_pos hG]
  unfold lz lD
  simp -implicitDefEqProofs [go_sem]
  refine ac kw ?_
  simp -implicitDefEqProofs [go_sem]
 rw [if_neg (fun h=>h hG),if_neg (by decide +kernel)]
 obtain ⟨f1,f2⟩:=hf hG (by decide +kernel)
 have k3:=vC (aP l aW (1 / 4)) (by omega) (fun p hp=>by have:=(f2 p hp).1; omega) fun p hp q hq=>by have:=(f2 p hp).2 q hq; omega
 have hel:=od (L:=(aP l aW (1 / 4)).map Prod.fst) (n:=196700) fun x hx=>by
  obtain ⟨p,hp,rfl⟩:=List.mem_map.1 hx
  exact (f2 p hp).1
 rw [List.length_map] at hel
 have hez:=Bg (L:=(aP l aW (1 / 4)).map Prod.fst) (n:=102) fun x hx q hq=>by
  obtain ⟨p,hp,rfl⟩:=List.mem_map.1 hx
  exact (f2 p hp).2 q hq
 have hsum:=oe y ((aP l aW (1 / 4)).map Prod.fst)
 have hne:=yZ (L:=(aP l aW (1 / 4)).map Prod.fst)
 have hel:(bN ((aP l aW (1 / 4)).map Prod.fst)).length≤2400000:=by
  have:=Nat.mul_le_mul_right 196700 f1; omega
 have hpl:=jO (aP l aW (1 / 4))
 unfold lz
 unfold lD at *
 unfold D7 at k3
 generalize (aP l aW (1 / 4)).map ip=PL at *
 generalize bN ((aP l aW (1 / 4)).map Prod.fst)=E at *
 have her:=qw E
 have hEl:(E.map wL).length=E.length:=by simp
 have hEg:∀i (h:i<E.length),aX (E.map wL) (i:Int) = .agg (pC E[i].1++pC E[i].2):=fun i h=>eG h
 generalize E.map wL=EV at *
 simp -implicitDefEqProofs [go_sem,w1,w2,w3]
 refine ac ky ?_
 simp -implicitDefEqProofs [go_sem,lrc,trc,drc]
 refine an _ k3 (by simp [go_sem,hpl]) ?_
 simp -implicitDefEqProofs [go_sem]
 refine ak 3 (α:={i:Nat // i≤E.length}) (fun i=>[(9,.ptr 2 0 0),(10,.sl 12 false EV),(11,.int .i64 (cq y (E.take i.1))),(12,.int .i64 i.1)]) (fun i=>[(2,.live 3 [.agg (rC y)])]) (fun i=>E.length-i.1) ⟨0,Nat.zero_le _⟩ [] (by simp) (fun _ _ _ _ h=>h) (by simp) (by simp -implicitDefEqProofs [go_sem,cq,renL_ro (nm []) _ her,cloL_ro (n:=3) _ her]) (by simp -implicitDefEqProofs [go_sem]) fun ⟨i,hi⟩=>?_
 have hsl:=Bd y (E.take i)
 rw [List.length_take] at hsl
 by_cases a:i<E.length
 ·have a1:(i:Int)<E.length:=by omega
  have es:=wS i (by omega)
  have gi:=hEg i a
  have hz:=hez _ (List.getElem_mem a)
  have hn1:=hne _ (List.getElem_mem a)
  have hs1:cq y (E.take (i+1))=cq y (E.take i)+yu y E[i]:=by rw [List.take_succ_eq_append_getElem a,Be]
  generalize E[i]=e at *
  obtain ⟨p,q⟩:=e
  simp only at *
  have zp:sz p.y≤p.sz:=Nat.le_max_right _ _
  have zq:sz q.y≤q.sz:=Nat.le_max_right _ _
  have c1:=oU p.y y (by omega) (by omega)
  have c2:=oU q.y y (by omega) (by omega)
  have c3:=oU p.y q.y (by omega) (by omega)
  simp only [dn] at c1 c2 c3
  have c30:¬bT p.y q.y=0:=fun h=>hn1 (iz.1 h)
  have d3:∀p q:PQ,(pC p++pC q).drop 3=rC p.y++pC q:=fun _ _=>rfl
  have d9:∀p q:PQ,(pC p++pC q).drop 9=rC q.y:=fun _ _=>rfl
  have d6:∀p q:PQ,(pC p++pC q).drop 6=pC q:=fun _ _=>rfl
  have t6:∀p q:PQ,(pC p++pC q).take 6=pC p:=fun _ _=>rfl
  have pd3:∀p:PQ,(pC p).drop 3=rC p.y:=fun _=>rfl
  have t3:∀p q:PQ,(rC p.y++pC q).take 3=rC p.y:=fun _ _=>rfl
  have hup:yu y (p,q)=if bT p.y y≤0∧0<bT q.y y then 1 else if 0<bT p.y y∧bT q.y y≤0 then -1 else 0:=by
   unfold yu
   simp only [py,dE]
  have hno:¬(bT p.y y=bT q.y y∧bT p.y y=0):=fun h=>by
   have h1:=iz.1 h.2
   have h2:=iz.1 (h.1.symm.trans h.2)
   exact hn1 (h1.trans h2.symm)
  rw [hup] at hs1
  generalize bT p.y y=u at *
  generalize bT q.y y=v at *
  generalize bT p.y q.y=w at *
  generalize cq y (E.take i)=s0 at *
  have wu:IntKind.i64.wrap (s0+1)=s0+1:=by rw [bC (by omega)]
  have wd:IntKind.i64.wrap (s0-1)=s0-1:=by rw [bC (by omega)]
  simp -implicitDefEqProofs [go_sem,a,a1,hEl,gi,d3,d9,d6,t6,pd3,t3,lrc,trc,drc]
  refine ae c1 ?_
  simp -implicitDefEqProofs [go_sem,a,a1,hEl,gi,d3,d9,d6,t6,pd3,t3,lrc,trc,drc]
  refine ae c2 ?_
  have hbr:∀P:Prop,(u≠v→P)→(u=v→u≠0→P)→P:=fun P h1 h2=>by
   by_cases e:u=v
   ·exact h2 e fun h=>hno ⟨e,h⟩
   ·exact h1 e
  refine hbr _ (fun e1=>?_) (fun e1 e2=>?_)
  ·simp -implicitDefEqProofs [go_sem,e1,a,a1,hEl,gi,d3,d9,d6,t6,pd3,t3,lrc,trc,drc]
   refine ae c3 ?_
   by_cases hu:u≤0
   ·have hu0:¬0<u:=by omega
    by_cases hv:0<v
    ·have hs2:cq y (E.take (i+1))=s0+1:=by rw [hs1,if_pos ⟨hu,hv⟩]
     simp -implicitDefEqProofs [go_sem,c30,hu,hu0,hv,wu,es]
     exact ab ⟨i+1,a⟩ (by simp only; omega) [] (by simp) (fun _ _ _ _ h=>h) (by simp) (by simp -implicitDefEqProofs [go_sem,hs2,renL_ro (nm []) _ her,cloL_ro (n:=3) _ her]) (by simp -implicitDefEqProofs [go_sem])
    ·have hv0:v≤0:=by omega
     have hs2:cq y (E.take (i+1))=s0:=by rw [hs1,if_neg (fun h=>hv h.2),if_neg (fun h=>hu0 h.1)]; omega
     simp -implicitDefEqProofs [go_sem,c30,hu,hu0,hv,hv0,es]
     exact ab ⟨i+1,a⟩ (by simp only; omega) [] (by simp) (fun _ _ _ _ h=>h) (by simp) (by simp -implicitDefEqProofs [go_sem,hs2,renL_ro (nm []) _ her,cloL_ro (n:=3) _ her]) (by simp -implicitDefEqProofs [go_sem])
   ·have hu0:0<u:=by omega
    by_cases hv:0<v
    ·have hv0:¬v≤0:=by omega
     have hs2:cq y (E.take (i+1))=s0:=by rw [hs1,if_neg (fun h=>hu h.1),if_neg (fun h=>hv0 h.2)]; omega
     simp -implicitDefEqProofs [go_sem,c30,hu,hu0,hv,hv0,es]
     exact ab ⟨i+1,a⟩ (by simp only; omega) [] (by simp) (fun _ _ _ _ h=>h) (by simp) (by simp -implicitDefEqProofs [go_sem,hs2,renL_ro (nm []) _ her,cloL_ro (n:=3) _ her]) (by simp -implicitDefEqProofs [go_sem])
    ·have hv0:v≤0:=by omega
     have hs2:cq y (E.take (i+1))=s0-1:=by rw [hs1,if_neg (fun h=>hu h.1),if_pos ⟨hu0,hv0⟩]; omega
     simp -implicitDefEqProofs [go_sem,c30,hu,hu0,hv,hv0,wd,es]
     exact ab ⟨i+1,a⟩ (by simp only; omega) [] (by simp) (fun _ _ _ _ h=>h) (by simp) (by simp -implicitDefEqProofs [go_sem,hs2,renL_ro (nm []) _ her,cloL_ro (n:=3) _ her]) (by simp -implicitDefEqProofs [go_sem])
  ·subst e1
   simp -implicitDefEqProofs [go_sem,e2,a,a1,hEl,gi,d3,d9,d6,t6,pd3,t3,lrc,trc,drc]
   refine ae c3 ?_
   by_cases hu:u≤0
   ·have hu0:¬0<u:=by omega
    by_cases hv:0<u
    ·omega
    ·have hv0:u≤0:=by omega
     have hs2:cq y (E.take (i+1))=s0:=by rw [hs1,if_neg (fun h=>hv h.2),if_neg (fun h=>hu0 h.1)]; omega
     simp -implicitDefEqProofs [go_sem,c30,hu,hu0,hv,hv0,es]
     exact ab ⟨i+1,a⟩ (by simp only; omega) [] (by simp) (fun _ _ _ _ h=>h) (by simp) (by simp -implicitDefEqProofs [go_sem,hs2,renL_ro (nm []) _ her,cloL_ro (n:=3) _ her]) (by simp -implicitDefEqProofs [go_sem])
   ·have hu0:0<u:=by omega
    by_cases hv:0<u
    ·have hv0:¬u≤0:=by omega
     have hs2:cq y (E.take (i+1))=s0:=by rw [hs1,if_neg (fun h=>hu h.1),if_neg (fun h=>hv0 h.2)]; omega
     simp -implicitDefEqProofs [go_sem,c30,hu,hu0,hv,hv0,es]
     exact ab ⟨i+1,a⟩ (by simp only; omega) [] (by simp) (fun _ _ _ _ h=>h) (by simp) (by simp -implicitDefEqProofs [go_sem,hs2,renL_ro (nm []) _ her,cloL_ro (n:=3) _ her]) (by simp -implicitDefEqProofs [go_sem])
    ·omega
 ·have a1:¬(i:Int)<E.length:=by omega
  have hii:i=E.length:=by omega
  have hs2:cq y (E.take i)=0:=by rw [hii,List.take_length]; exact hsum
  simp -implicitDefEqProofs [go_sem,a1,hEl,hs2]
  refine ac kw ?_
  simp -implicitDefEqProofs [go_sem]
end Go.Proofs.YtdnmfaljidjijaaGreat
