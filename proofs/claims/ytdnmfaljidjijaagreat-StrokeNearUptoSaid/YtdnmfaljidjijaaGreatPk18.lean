import Derived.Test.YtdnmfaljidjijaaGreatPk05
import Derived.Test.YtdnmfaljidjijaaGreatPk06
import Derived.Test.YtdnmfaljidjijaaGreatPk07
import Derived.Test.YtdnmfaljidjijaaGreatPk08
import Derived.Test.YtdnmfaljidjijaaGreatPk09
namespace Go.Proofs.YtdnmfaljidjijaaGreat
set_option maxHeartbeats 16000000
open Go Go.Proofs
set_option linter.unusedSimpArgs false
set_option linter.unusedVariables false
set_option maxRecDepth 20000
theorem PW (p q:PQ) (hp:p.sz≤17179869184) (hq:q.sz≤17179869184):ag Tryz.prog 125 [pA p,pA q] (pA (p.sub q)):=by
 have h:=cL (pc p) (pc q) (be hp) (be hq)
 rw [aO,aO] at h; exact h
def yj (p a b:PQ):Rat :=
 if (b.sub a).dot (b.sub a)=0 then p.far a
 else if (p.sub a).dot (b.sub a) / (b.sub a).dot (b.sub a)<0 then p.far a
 else if 1<(p.sub a).dot (b.sub a) / (b.sub a).dot (b.sub a) then p.far b
 else p.far (a.mix b ((p.sub a).dot (b.sub a) / (b.sub a).dot (b.sub a)))
theorem xl (p a b:PQ) (s:Rat):p.far (a.mix b s)=p.far a-2*s*(p.sub a).dot (b.sub a)+s*s*(b.sub a).dot (b.sub a):=by
 unfold PQ.far PQ.mix PQ.dot PQ.sub PQ.add PQ.scale; simp only; grind
theorem JR (a b:PQ):a.mix b 1=b:=by
 unfold PQ.mix PQ.sub PQ.add PQ.scale
 exact PQ.ext (by simp only; grind) (by simp only; grind)
theorem HY (a b:PQ):a.mix b 0=a:=by
 unfold PQ.mix PQ.sub PQ.add PQ.scale
 exact PQ.ext (by simp only; grind) (by simp only; grind)
theorem MS (p a b : PQ) {s : Rat} (h0 : 0 ≤ s) (h1 : s ≤ 1) : yj p a b ≤ p.far (a.mix b s) := by
  have hD : 0 ≤ (b.sub a).dot (b.sub a) := by
    have h1 := cQ (b.sub a).x; have h2 := cQ (b.sub a).y
    unfold PQ.dot; grind
  rw [xl p a b s]
  unfold yj
  split
  · rename_i h
    have := PQ.dot0 h
    have e : (p.sub a).dot (b.sub a) = 0 := by conv => lhs; unfold PQ.dot
                                               rw [this.1, this.2]; grind
    rw [h, e]; grind
  · rename_i hne
    have hp : 0 < (b.sub a).dot (b.sub a) := by grind
    have e : (p.sub a).dot (b.sub a) = ((p.sub a).dot (b.sub a) / (b.sub a).dot (b.sub a)) * (b.sub a).dot (b.sub a) := by grind
    split
    · rename_i h
      generalize (p.sub a).dot (b.sub a) / (b.sub a).dot (b.sub a) = t at *
      rw [e]
      generalize (b.sub a).dot (b.sub a) = D at *
      have := Rat.mul_nonneg (Rat.mul_nonneg h0 hD) (show 0 ≤ s - 2 * t by grind)
      grind
    · split
      · rename_i h
        have fb : p.far b = p.far a - 2 * 1 * (p.sub a).dot (b.sub a) + 1 * 1 * (b.sub a).dot (b.sub a) := by rw [← xl, JR]
        rw [fb]
        generalize (p.sub a).dot (b.sub a) / (b.sub a).dot (b.sub a) = t at *
        rw [e]
        generalize (b.sub a).dot (b.sub a) = D at *
        have := Rat.mul_nonneg (Rat.mul_nonneg (show 0 ≤ 1 - s by grind) hD) (show 0 ≤ 2 * t - s - 1 by grind)
        grind
      · rw [xl p a b ((p.sub a).dot (b.sub a) / (b.sub a).dot (b.sub a))]
        generalize (p.sub a).dot (b.sub a) / (b.sub a).dot (b.sub a) = t at *
        rw [e]
        generalize (b.sub a).dot (b.sub a) = D at *
        have := Rat.mul_nonneg (cQ (s - t)) hD
        grind
theorem MO {p a b:PQ} {n:Nat} (hp:p.sz≤n) (ha:a.sz≤n) (hb:b.sz≤n):sz (yj p a b)≤80*n+60:=by
 have z1:=PQ.sz_sub b a
 have z2:=PQ.sz_sub p a
 have z3:=PQ.sz_dot (p.sub a) (b.sub a)
 have z4:=PQ.sz_dot (b.sub a) (b.sub a)
 have z5:=iS ((p.sub a).dot (b.sub a)) ((b.sub a).dot (b.sub a))
 have z6:=PQ.sz_mix a b ((p.sub a).dot (b.sub a) / (b.sub a).dot (b.sub a))
 have z7:=PQ.sz_far p (a.mix b ((p.sub a).dot (b.sub a) / (b.sub a).dot (b.sub a)))
 have z8:=PQ.sz_far p a
 have z9:=PQ.sz_far p b
 unfold yj
 split
 ·omega
 ·split
  ·omega
  ·split<;>omega
theorem AC (p0:PR) (a b:PQ) (hp0:p0.In 1048576) (ha:a.sz≤1048576) (hb:b.sz≤1048576):ag Tryz.prog 59 [p0.av,pA a,pA b] (rA (yj p0.val a b)):=by
 have hp:=hp0.sz
 have g1:=fun q (hq:PQ.sz q≤1073741824)=>cL p0 (pc q) hp0.mono (be (by omega))
 have g2:=fun q (hq:PQ.sz q≤1073741824)=>vS p0 (pc q) hp0.mono (be hq)
 simp only [aO] at g1 g2
 obtain ⟨cc,hcc,c1,c2,c3,c4⟩:∃cc,p0.av = .agg cc∧cc.length=6∧cc.take 6=cc∧cc.drop 6=[]∧roL cc:=⟨_,rfl,rfl,rfl,rfl,by have:=ju p0; unfold PR.av at this; simpa only [ro] using this⟩
 rw [hcc] at g1 g2 ⊢
 generalize p0.val=p at *
 have z1:=PQ.sz_sub b a
 have z2:=PQ.sz_sub p a
 have z3:=PQ.sz_dot (p.sub a) (b.sub a)
 have z4:=PQ.sz_dot (b.sub a) (b.sub a)
 have h1:=PW b a (by omega) (by omega)
 have h2:=g1 a (by omega)
 have h3:=tF (p.sub a) (b.sub a) (by omega) (by omega)
 have h4:=tF (b.sub a) (b.sub a) (by omega) (by omega)
 have h5:=g2 a (by omega)
 have h6:=g2 b (by omega)
 have z5:=iS ((p.sub a).dot (b.sub a)) ((b.sub a).dot (b.sub a))
 have h8:=bM 1 1 (by omega) (by omega) (by omega)
 rw [show ((1:Int):Rat) / ((1:Int):Rat)=1 by grind] at h8
 change ag _ _ [_,pA _] _ at h2 h5 h6
 refine Pg Tryz.func59 rfl [.cell 6 27] rfl (dD _) ?_
 unfold yj
 by_cases h0:(b.sub a).dot (b.sub a)=0
 ·have h7:=vZ (qc ((p.sub a).dot (b.sub a))) (qc ((b.sub a).dot (b.sub a))) (c_ (by omega)) (c_ (by omega))
  rw [br,br,if_pos h0] at h7
  change ag _ _ [rA _,rA _] _ at h7
  unfold rZ at h7
  rw [if_pos h0]
  generalize (b.sub a).dot (b.sub a)=dd at *
  generalize (p.sub a).dot (b.sub a)=pd at *
  generalize p.sub a=pa at *
  generalize b.sub a=ba at *
  generalize p.far a=fa at *
  simp only [aQ,bA] at h1 h2 h3 h4 h5 h7 ⊢
  simp -implicitDefEqProofs [go_sem,c1,c2]
  refine ac h1 ?_
  simp -implicitDefEqProofs [go_sem,c1,c2]
  refine ao _ h2 (by simp [go_sem,bW,c4]) ?_
  simp -implicitDefEqProofs [go_sem]
  refine aa h3 ?_
  simp -implicitDefEqProofs [go_sem]
  refine aa h4 ?_
  simp -implicitDefEqProofs [go_sem]
  refine aa h7 ?_
  simp -implicitDefEqProofs [go_sem,c1,c2]
  refine ah _ h5 (by simp [go_sem,bW,c4]) ?_
  simp -implicitDefEqProofs [go_sem,aL]
 ·have h7:=AF ((p.sub a).dot (b.sub a)) ((b.sub a).dot (b.sub a)) (by omega) (by omega) h0
  rw [if_neg h0]
  have z6:=PQ.sz_mix a b ((p.sub a).dot (b.sub a) / (b.sub a).dot (b.sub a))
  have h9:=Ig a b ((p.sub a).dot (b.sub a) / (b.sub a).dot (b.sub a)) (by omega) (by omega) (by omega)
  have h10:=g2 (a.mix b ((p.sub a).dot (b.sub a) / (b.sub a).dot (b.sub a))) (by omega)
  have h11:=jx ((p.sub a).dot (b.sub a) / (b.sub a).dot (b.sub a)) (by omega)
  have h12:=oU ((p.sub a).dot (b.sub a) / (b.sub a).dot (b.sub a)) 1 (by omega) (by rw [eH]; omega)
  generalize (p.sub a).dot (b.sub a) / (b.sub a).dot (b.sub a)=t at *
  generalize (b.sub a).dot (b.sub a)=dd at *
  generalize (p.sub a).dot (b.sub a)=pd at *
  generalize p.sub a=pa at *
  generalize b.sub a=ba at *
  generalize p.far a=fa at *
  generalize p.far b=fb at *
  change ag _ _ [_,pA _] _ at h10
  generalize p.far (a.mix b t)=fm at *
  generalize a.mix b t=mx at *
  simp only [aQ,bA] at h1 h2 h3 h4 h5 h6 h7 h8 h9 h10 h11 h12 ⊢
  simp -implicitDefEqProofs [go_sem,c1,c2]
  refine ac h1 ?_
  simp -implicitDefEqProofs [go_sem,c1,c2]
  refine ao _ h2 (by simp [go_sem,bW,c4]) ?_
  simp -implicitDefEqProofs [go_sem]
  refine aa h3 ?_
  simp -implicitDefEqProofs [go_sem]
  refine aa h4 ?_
  simp -implicitDefEqProofs [go_sem]
  refine aa h7 ?_
  simp -implicitDefEqProofs [go_sem,c1,c2]
  refine ac h11 ?_
  by_cases t0:t<0
  ·have:aM t<0:=iy.2 t0
   simp -implicitDefEqProofs [go_sem,this,t0,c1,c2]
   refine ah _ h5 (by simp [go_sem,bW,c4]) ?_
   simp -implicitDefEqProofs [go_sem,aL]
  ·have:¬aM t<0:=fun hh=>t0 (iy.1 hh)
   simp -implicitDefEqProofs [go_sem,this,t0]
   refine aa h8 ?_
   simp -implicitDefEqProofs [go_sem]
   refine aa h12 ?_
   by_cases t1:1<t
   ·have:0<bJ t 1:=iZ.2 t1
    simp -implicitDefEqProofs [go_sem,this,t1,c1,c2]
    refine ah _ h6 (by simp [go_sem,bW,c4]) ?_
    simp -implicitDefEqProofs [go_sem,aL]
   ·have:¬0<bJ t 1:=fun hh=>t1 (iZ.1 hh)
    simp -implicitDefEqProofs [go_sem,this,t1,c1,c2]
    refine aa h9 ?_
    simp -implicitDefEqProofs [go_sem]
    refine ao _ h10 (by simp [go_sem,bW,c4]) ?_
    simp -implicitDefEqProofs [go_sem,aL]
theorem J9 (p a b:PQ) (hp:p.sz≤1048576) (ha:a.sz≤1048576) (hb:b.sz≤1048576):ag Tryz.prog 59 [pA p,pA a,pA b] (rA (yj p a b)):=by
 have h:=AC (pc p) a b (be hp) ha hb
 rw [aO] at h; exact h
theorem xk (c p:PQ):(c.add p).far c=p.dot p:=by
 unfold PQ.far PQ.add PQ.sub PQ.dot
 simp only
 grind
theorem Eu {x g M k:Rat} (hk:0<k):iq (k*x) g (k*k*M)↔iq x g M:=by
 have hk2:=Rat.mul_pos hk hk
 have e1:0≤k*x↔0≤x:=by
  constructor
  ·intro h
   rcases (Rat.le_total:0≤x∨x≤0) with h1|h1
   ·exact h1
   ·rcases Classical.em (x=0) with h2|h2
    ·grind
    ·have:=Rat.mul_pos hk (show 0 < -x by grind); grind
  ·intro h; exact Rat.mul_nonneg (by grind) h
 have cancel:∀a b:Rat,k*k*a≤k*k*b↔a≤b:=fun a b=>by
  constructor
  ·intro h
   rcases Classical.em (a≤b) with h1|h1
   ·exact h1
   ·have:=Rat.mul_pos hk2 (show 0<a-b by grind); grind
  ·intro h
   have:=Rat.mul_nonneg (show 0≤k*k by grind) (show 0≤b-a by grind); grind
 have e2:g*g*(k*k*M)≤k*x*(k*x)↔g*g*M≤x*x:=by
  rw [show g*g*(k*k*M)=k*k*(g*g*M) by grind,show k*x*(k*x)=k*k*(x*x) by grind,cancel]
 have e3:k*x*(k*x)≤g*g*(k*k*M)↔x*x≤g*g*M:=by
  rw [show g*g*(k*k*M)=k*k*(g*g*M) by grind,show k*x*(k*x)=k*k*(x*x) by grind,cancel]
 unfold iq
 rw [e1,e2,e3]
theorem Jg {s ou ov:PQ} {h r:Rat} {k:Nat} (hf:mU s ou ov h k=some r):(0<s.dot ou→r≤cV (h*h*ou.dot ou / (s.dot ou*s.dot ou)) k)∧(0<s.dot ov→r≤cV (h*h*ov.dot ov / (s.dot ov*s.dot ov)) k):=by
 unfold mU at hf
 simp only at hf
 generalize cV (h*h*ou.dot ou / (s.dot ou*s.dot ou)) k=A at *
 generalize cV (h*h*ov.dot ov / (s.dot ov*s.dot ov)) k=B at *
 split at hf
 ·split at hf
  ·injection hf with hf
   split at hf<;>(subst hf; exact ⟨fun _=>by grind,fun _=>by grind⟩)
  ·injection hf with hf; subst hf
   exact ⟨fun _=>by grind,fun h=>absurd h (by assumption)⟩
 ·split at hf
  ·injection hf with hf; subst hf
   exact ⟨fun h=>absurd h (by assumption),fun _=>by grind⟩
  ·cases hf
theorem vM {r x M h:Rat} {k:Nat} (hr:0≤r) (hx:0<x) (hM:0≤M) (hl:r≤cV (h*h*M / (x*x)) k):r*x*(r*x)≤h*h*M:=by
 have hxx:=Rat.mul_pos hx hx
 have hn:=Rat.mul_nonneg (cQ h) hM
 have h0:0≤h*h*M / (x*x):=by rw [Rat.div_def]; exact Rat.mul_nonneg hn (Rat.le_of_lt (Rat.inv_pos.2 hxx))
 have h1:=DQ h0 k
 have h2:h*h*M / (x*x)*(x*x)=h*h*M:=by grind
 generalize cV (h*h*M / (x*x)) k=R at *
 generalize h*h*M / (x*x)=q at *
 have h3:r*r≤R*R:=by
  have:=Rat.mul_nonneg (show 0≤R-r by grind) (show 0≤R+r by grind); grind
 have h4:=Rat.mul_nonneg (show 0≤q-r*r by grind) (show 0≤x*x by grind)
 rw [←h2]
 grind
theorem Ll (u v:PQ):u.dot v*u.dot v≤u.dot u*v.dot v:=by
 have h:=cQ (u.cross v)
 have e:u.dot u*v.dot v-u.dot v*u.dot v=u.cross v*u.cross v:=by unfold PQ.dot PQ.cross; grind
 grind
theorem jv (u v:PQ):u.rot.dot v.rot=u.dot v:=by unfold PQ.rot PQ.dot; simp only; grind
theorem eF (u v:PQ) (r:Rat):(u.scale r).dot v=r*u.dot v:=by unfold PQ.scale PQ.dot; simp only; grind
theorem ls (a b v:PQ):(a.add b).dot v=a.dot v+b.dot v:=by unfold PQ.add PQ.dot; simp only; grind
theorem gV (u v:PQ):u.dot v=v.dot u:=by unfold PQ.dot; grind
theorem z_ {x y:Rat} (hy:0≤y) (h:x*x≤y*y):x≤y:=by
 rcases Classical.em (x≤y) with h1|h1
 ·exact h1
 ·have h2:=Rat.mul_pos (show 0<x-y by grind) (show 0<x+y by grind)
  grind
theorem g_ {x y k:Rat} (hk:0<k) (h:x*k≤y*k):x≤y:=by
 rcases Classical.em (x≤y) with h1|h1
 ·exact h1
 ·have h2:=Rat.mul_pos (show 0<x-y by grind) hk
  grind
theorem IR {a b R:Rat} (hb:0<b) (hab:b≤a) (hR:0<R) (hc:R*R≤a*b):a*(R*R*((a+b+2*R)*(a+b+2*R)))≤b*((a*a-a*b+2*a*R+2*R*R)*(a*a-a*b+2*a*R+2*R*R)):=by
 have ha:0<a:=by grind
 have e:b*((a*a-a*b+2*a*R+2*R*R)*(a*a-a*b+2*a*R+2*R*R))-a*(R*R*((a+b+2*R)*(a+b+2*R)))=(a*b-R*R)*(a*((a-b+2*R)*(a-b+2*R))-4*(R*R)*b):=by grind
 have h1:0≤(a-b)*((a-b)+4*R):=Rat.mul_nonneg (by grind) (by grind)
 have h2:=Rat.mul_nonneg (show 0≤a by grind) h1
 have h3:=Rat.mul_nonneg (show 0≤a-b by grind) (cQ R)
 have h4:0≤a*((a-b+2*R)*(a-b+2*R))-4*(R*R)*b:=by grind
 have h5:=Rat.mul_nonneg (show 0≤a*b-R*R by grind) h4
 grind
theorem Eh {a b R H T:Rat} (hb:0<b) (hab:b≤a) (hR:0<R) (hc:R*R≤a*b) (h1:(a+R)*(a+R)≤H*a) (hT:T=a+b+2*R):0≤2*H-T∧T*T*(R*R)≤(2*H-T)*(2*H-T)*(a*b):=by
 have ha:0<a:=by grind
 have hp:=IR hb hab hR hc
 rw [←hT] at hp
 obtain ⟨E,hE⟩:∃E,E=a*a-a*b+2*a*R+2*R*R:=⟨_,rfl⟩
 rw [←hE] at hp
 have hE1:E≤(2*H-T)*a:=by rw [hE,hT]; grind
 have hE0:0<E:=by
  have q1:=Rat.mul_nonneg (show 0≤a by grind) (show 0≤a-b by grind)
  have q2:=Rat.mul_pos ha hR
  have q3:=Rat.mul_pos hR hR
  rw [hE]; grind
 have hK:0<2*H-T:=by
  rcases Classical.em (0<2*H-T) with h|h
  ·exact h
  ·have:=Rat.mul_nonneg (show 0 ≤ -(2*H-T) by grind) (show 0≤a by grind)
   grind
 refine ⟨by grind,?_⟩
 have s1:E*E≤(2*H-T)*a*((2*H-T)*a):=by
  have:=Rat.mul_nonneg (show 0≤(2*H-T)*a-E by grind) (show 0≤(2*H-T)*a+E by grind)
  grind
 have s2:=Rat.mul_nonneg (show 0≤b by grind) (show 0≤(2*H-T)*a*((2*H-T)*a)-E*E by grind)
 generalize 2*H-T=K at *
 refine g_ ha ?_
 grind
theorem Kl {a b R H T m:Rat} (ha:0<a) (hb:0<b) (hH:0≤H) (hc:R*R≤a*b) (h1:0<a+R→(a+R)*(a+R)≤H*a) (h2:0<b+R→(b+R)*(b+R)≤H*b) (hm:0<m) (hs:iq R (m-1) (a*b)) (hT:T=a+b+2*R):m*T≤2*H:=by
 have hab:=Rat.mul_pos ha hb
 unfold iq at hs
 split at hs
 ·rename_i hm1
  obtain ⟨hR0,hR2⟩:=hs
  have hmm:=Rat.mul_pos (Rat.mul_pos hm1 hm1) hab
  have hR:0<R:=by
   rcases Classical.em (R=0) with h|h
   ·rw [h] at hR2; grind
   ·grind
  have key:0≤2*H-T∧T*T*(R*R)≤(2*H-T)*(2*H-T)*(a*b):=by
   rcases (Rat.le_total:b≤a∨a≤b) with h|h
   ·exact Eh hb h hR hc (h1 (by grind)) hT
   ·have:=Eh (a:=b) (b:=a) (R:=R) (H:=H) (T:=T) ha h hR (by grind) (h2 (by grind)) (by grind)
    refine ⟨this.1,?_⟩
    rw [show a*b=b*a by grind]; exact this.2
  obtain ⟨k1,k2⟩:=key
  have k3:=Rat.mul_nonneg (cQ T) (show 0≤R*R-(m-1)*(m-1)*(a*b) by grind)
  have k4:(m-1)*T*((m-1)*T)≤(2*H-T)*(2*H-T):=by
   refine g_ hab ?_
   generalize a*b=ab at *
   generalize 2*H-T=K at *
   grind
  have:=z_ k1 k4
  grind
 ·rename_i hm1
  rcases Classical.em (0<T) with hT0|hT0
  ·rcases hs with hR|hR
   ·have q1:=h1 (by grind)
    have q2:=h2 (by grind)
    have r1:a+R≤H:=by
     refine g_ (show 0<a+R by grind) ?_
     have:=Rat.mul_nonneg hH hR
     grind
    have r2:b+R≤H:=by
     refine g_ (show 0<b+R by grind) ?_
     have:=Rat.mul_nonneg hH hR
     grind
    have:=Rat.mul_nonneg (show 0≤1-m by grind) (show 0≤T by grind)
    grind
   ·rcases Classical.em (0≤R) with hR0|hR0
    ·have q1:=h1 (by grind)
     have q2:=h2 (by grind)
     have r1:a+R≤H:=by
      refine g_ (show 0<a+R by grind) ?_
      have:=Rat.mul_nonneg hH hR0
      grind
     have r2:b+R≤H:=by
      refine g_ (show 0<b+R by grind) ?_
      have:=Rat.mul_nonneg hH hR0
      grind
     have:=Rat.mul_nonneg (show 0≤1-m by grind) (show 0≤T by grind)
     grind
    ·
     have s1:4*(a*b)≤(a+b)*(a+b):=by have:=cQ (a-b); grind
     have s2:(-(2*R))*(-(2*R))≤(1-m)*(a+b)*((1-m)*(a+b)):=by
      have:=Rat.mul_nonneg (cQ (1-m)) (show 0≤(a+b)*(a+b)-4*(a*b) by grind)
      generalize a*b=ab at *
      grind
     have s3:=z_ (Rat.mul_nonneg (show 0≤1-m by grind) (show 0≤a+b by grind)) s2
     have s4:m*(a+b)≤T:=by rw [hT]; grind
     have s5:T*T≤2*H*(a+b):=by
      have hHa:=Rat.mul_nonneg hH (show 0≤a by grind)
      have hHb:=Rat.mul_nonneg hH (show 0≤b by grind)
      rcases Classical.em (0<a+R) with p1|p1
      ·have q1:=h1 p1
       rcases Classical.em (0<b+R) with p2|p2
       ·have q2:=h2 p2
        have:=cQ ((a+R)-(b+R))
        have e:T=(a+R)+(b+R):=by rw [hT]; grind
        rw [e]
        generalize a+R=x at *
        generalize b+R=y at *
        grind
       ·have e:T≤a+R:=by rw [hT]; grind
        have:=Rat.mul_nonneg (show 0≤(a+R)-T by grind) (show 0≤(a+R)+T by grind)
        generalize a+R=x at *
        grind
      ·have e:T≤b+R:=by rw [hT]; grind
       have q2:=h2 (by grind)
       have:=Rat.mul_nonneg (show 0≤(b+R)-T by grind) (show 0≤(b+R)+T by grind)
       generalize b+R=y at *
       grind
     refine g_ hT0 ?_
     have:=Rat.mul_nonneg (show 0≤2*H by grind) (show 0≤T-m*(a+b) by grind)
     have s6:=Rat.mul_nonneg (show 0≤m by grind) (show 0≤2*H*(a+b)-T*T by grind)
     grind
  ·have:=Rat.mul_nonneg (show 0≤m by grind) (show 0 ≤ -T by grind)
   grind
theorem kX {k x:Rat} (hk:0<k) (h:0<k*x):0<x:=by
 rcases Classical.em (0<x) with h1|h1
 ·exact h1
 ·have:=Rat.mul_nonneg (show 0≤k by grind) (show 0 ≤ -x by grind)
  grind
theorem LA {c M H T:Rat} (hM:0<M) (e2:c*M=2) (h:c*T≤2*H):T≤H*M:=by
 have h1:=Rat.mul_nonneg (show 0≤M by grind) (show 0≤2*H-c*T by grind)
 have h2:M*(2*H-c*T)=2*(H*M)-c*M*T:=by grind
 rw [h2,e2] at h1
 grind
theorem Km {U V D h r ru rv m T:Rat} {k:Nat} (hU:0<U) (hV:0<V) (hD:D*D≤U*V) (hr:0<r) (pu:0<ru) (pv:0<rv) (hm:0<m)
 (f1:0<ru*U+rv*D→r*(ru*U+rv*D)*(r*(ru*U+rv*D))≤h*h*U) (f2:0<ru*D+rv*V→r*(ru*D+rv*V)*(r*(ru*D+rv*V))≤h*h*V)
 (hat:iq D (2 / (m*m)-1) (U*V)) (hT:T=r*r*(ru*ru*U+2*(ru*(rv*D))+rv*rv*V)):T≤h*h*(m*m):=by
 have hmm:=Rat.mul_pos hm hm
 have hru:=Rat.mul_pos hr pu
 have hrv:=Rat.mul_pos hr pv
 have h1:0<r*ru*(r*ru)*U:=Rat.mul_pos (Rat.mul_pos hru hru) hU
 have h2:0<r*rv*(r*rv)*V:=Rat.mul_pos (Rat.mul_pos hrv hrv) hV
 have hk:0<r*ru*(r*rv):=Rat.mul_pos hru hrv
 have eab:r*ru*(r*ru)*U*(r*rv*(r*rv)*V)=r*ru*(r*rv)*(r*ru*(r*rv))*(U*V):=by grind
 have hc:r*ru*(r*rv)*D*(r*ru*(r*rv)*D)≤r*ru*(r*ru)*U*(r*rv*(r*rv)*V):=by
  have:=Rat.mul_nonneg (Rat.le_of_lt (Rat.mul_pos hk hk)) (show 0≤U*V-D*D by grind)
  rw [eab]
  generalize U*V=W at *
  generalize r*ru*(r*rv)=K at *
  grind
 have g1:0<r*ru*(r*ru)*U+r*ru*(r*rv)*D→(r*ru*(r*ru)*U+r*ru*(r*rv)*D)*(r*ru*(r*ru)*U+r*ru*(r*rv)*D)≤h*h*(r*ru*(r*ru)*U):=fun hp=>by
  have e:r*ru*(r*ru)*U+r*ru*(r*rv)*D=r*ru*(r*(ru*U+rv*D)):=by grind
  rw [e] at hp ⊢
  have hx:=kX hr (kX hru hp)
  have hf:=f1 hx
  generalize r*(ru*U+rv*D)=X at *
  have:=Rat.mul_nonneg (Rat.le_of_lt (Rat.mul_pos hru hru)) (show 0≤h*h*U-X*X by grind)
  grind
 have g2:0<r*rv*(r*rv)*V+r*ru*(r*rv)*D→(r*rv*(r*rv)*V+r*ru*(r*rv)*D)*(r*rv*(r*rv)*V+r*ru*(r*rv)*D)≤h*h*(r*rv*(r*rv)*V):=fun hp=>by
  have e:r*rv*(r*rv)*V+r*ru*(r*rv)*D=r*rv*(r*(ru*D+rv*V)):=by grind
  rw [e] at hp ⊢
  have hx:=kX hr (kX hrv hp)
  have hf:=f2 hx
  generalize r*(ru*D+rv*V)=X at *
  have:=Rat.mul_nonneg (Rat.le_of_lt (Rat.mul_pos hrv hrv)) (show 0≤h*h*V-X*X by grind)
  grind
 have hs:iq (r*ru*(r*rv)*D) (2 / (m*m)-1) (r*ru*(r*ru)*U*(r*rv*(r*rv)*V)):=by
  rw [eab]; exact (Eu hk).2 hat
 have hm2:0<2 / (m*m):=by rw [Rat.div_def]; exact Rat.mul_pos (by decide) (Rat.inv_pos.2 hmm)
 have hfar:=Kl (T:=T) h1 h2 (cQ h) hc g1 g2 hm2 hs (by rw [hT]; grind)
 have e2:2 / (m*m)*(m*m)=2:=by grind
 exact LA hmm e2 hfar
theorem IQ {u v:PQ} {m h tol:Rat} {left:Bool} {k:Nat} {l:List PQ} (hq:pn u v h tol left k=some l) (hs:fe u v m):∀q∈l,q.dot q≤h*h∨q.dot q≤h*h*(m*m):=by
 obtain ⟨a,b,r,ha,hb,a0,b0,hr,hr2,_,_,_,_,rfl⟩:=qj hq
 have pu:=xP (ha▸a0)
 have pv:=xP (hb▸b0)
 obtain ⟨hu,hv,hm,hat⟩:=hs
 have bu:=tx hu h k
 have bv:=tx hv h k
 unfold cj at ha hb
 obtain ⟨f1,f2⟩:=Jg hr
 generalize cV (h*h / u.dot u) k=ru at *
 generalize cV (h*h / v.dot v) k=rv at *
 have hr0:0<r:=by have:=gc; grind
 have eaa:a.dot a=ru*ru*u.dot u:=by rw [ha,il,eW]
 have ebb:b.dot b=rv*rv*v.dot v:=by rw [hb,il,eW]
 have eab:a.dot b=ru*(rv*u.dot v):=by
  rw [ha,hb,il,eF,gV,eF,jv,gV]
 have ex:(a.add b).dot (au u.rot left)=ru*u.dot u+rv*u.dot v:=by
  rw [ls,ha,hb,il,il,eF,eF,jv,jv,gV v u]
 have ey:(a.add b).dot (au v.rot left)=ru*u.dot v+rv*v.dot v:=by
  rw [ls,ha,hb,il,il,eF,eF,jv,jv]
 have euu:(au u.rot left).dot (au u.rot left)=u.dot u:=by rw [il,jv]
 have evv:(au v.rot left).dot (au v.rot left)=v.dot v:=by rw [il,jv]
 rw [ex,euu] at f1
 rw [ey,evv] at f2
 have ett:((a.add b).scale r).dot ((a.add b).scale r)=r*r*(ru*ru*u.dot u+2*(ru*(rv*u.dot v))+rv*rv*v.dot v):=by
  rw [eF,gV,eF,ls,gV a,gV b,ls,ls,eaa,ebb,eab,gV b a,eab]
  grind
 have hT:=Km (T:=((a.add b).scale r).dot ((a.add b).scale r)) (k:=k) (h:=h) (mq hu) (mq hv) (Ll u v) hr0 pu pv hm (fun hx=>vM (k:=k) (Rat.le_of_lt hr0) hx (mo u) (f1 hx)) (fun hx=>vM (k:=k) (Rat.le_of_lt hr0) hx (mo v) (f2 hx)) hat ett
 intro q hq
 simp only [List.mem_cons,List.not_mem_nil,or_false] at hq
 rcases hq with rfl|rfl|rfl
 ·left; rw [eaa]; exact bu
 ·exact .inr hT
 ·left; rw [ebb]; exact bv
theorem CD {p u v:PQ} {s:SR} {l:List PQ} (h:dl p u v s=(l,0)):∀q∈l,q.far p≤s.h*s.h∨s.join=0∧q.far p≤s.h*s.h*(s.miter.val*s.miter.val):=by
 have hn:=cQ s.h
 by_cases h2:s.join=2
 ·unfold dl at h
  split at h
  ·injection h with h0 h1; exact absurd h1 (by decide)
  split at h
  ·injection h with h0 h1; exact absurd h1 (by decide)
  try rw [if_pos h2] at h
  rcases ig p s.h s.tol.val with ⟨k1,k2⟩|⟨j,k1,_,_,_,k4⟩
  ·rw [h] at k2; exact absurd rfl k2
  ·rw [k4] at h
   injection h with h1 h3
   subst h1
   intro q hq
   have hp1:1≤2 ^ j:=Nat.pow_pos (by omega)
   obtain ⟨i,hi,rfl⟩:=List.mem_iff_getElem.1 hq
   rw [da] at hi
   rw [su hp1 hi,xk,sC]
   exact .inl Rat.le_refl
 ·intro q hq
  have hl:l≠[]:=fun e=>by rw [e] at hq; cases hq
  obtain ⟨hu,hv,hm,hx,o,ho,rfl⟩:=qC h h2 hl
  have hpp:p.far p=0:=by unfold PQ.far PQ.sub PQ.dot; simp only; grind
  have key:∀x∈o,x.dot x≤s.h*s.h∨s.join=0∧x.dot x≤s.h*s.h*(s.miter.val*s.miter.val):=by
   unfold qb at ho
   split at ho
   ·rename_i hj
    obtain ⟨k,_,_,hk⟩:=mR _ _ ho
    exact fun x hx=>(IQ hk hj.2 x hx).imp id fun h=>⟨hj.1,h⟩
   ·obtain ⟨a,b,j,k,e1,e2,rfl⟩:=mn ho
    obtain ⟨ru,rfl,o1⟩:=kT hu e1
    obtain ⟨rv,rfl,o2⟩:=kT hv e2
    intro x hx
    simp only [List.mem_cons,List.not_mem_nil,or_false] at hx
    rcases hx with rfl|rfl
    ·left; rw [il,eW]; exact o1.le
    ·left; rw [il,eW]; exact o2.le
  rcases List.mem_cons.1 hq with rfl|hq
  ·left; rw [hpp]; exact hn
  ·obtain ⟨x,hx,rfl⟩:=List.mem_map.1 hq
   have hx':x∈o:=by split at hx<;>simpa using hx
   rw [xk]; exact key x hx'
def jq (s:SR):Rat :=
 let m1:=if s.cap=1 then s.h*s.h*2 else s.h*s.h
 if s.join=0 then (if m1<s.h*s.h*(s.miter.val*s.miter.val) then s.h*s.h*(s.miter.val*s.miter.val) else m1) else m1
theorem xK (s:SR):s.h*s.h≤jq s:=by
 have:=cQ s.h
 unfold jq
 simp only
 split<;>split<;>(try split)<;>grind
theorem Ak {s:SR} (h:s.cap=1):s.h*s.h*2≤jq s:=by
 unfold jq
 simp only [h,if_true]
 split<;>(try split)<;>grind
theorem FD {s:SR} (h:s.join=0):s.h*s.h*(s.miter.val*s.miter.val)≤jq s:=by
 unfold jq
 simp only [h,if_true]
 split<;>grind
theorem Ds {c:PQ} {h tol:Rat} {l:List PQ} (hr:mV c h tol=(l,0)):∀q∈l,q.far c≤h*h:=by
 rcases ig c h tol with ⟨_,k2⟩|⟨j,k1,h0,_,_,k4⟩
 ·rw [hr] at k2; exact absurd rfl k2
 ·rw [k4] at hr
  injection hr with h1 h3
  subst h1
  intro q hq
  have hp1:1≤2 ^ j:=Nat.pow_pos (by omega)
  obtain ⟨i,hi,rfl⟩:=List.mem_iff_getElem.1 hq
  rw [da] at hi
  rw [su hp1 hi,xk,sC]
  exact Rat.le_refl
theorem BW {a b n:PQ} {m:Rat} (h:n.dot n≤m):∀q∈bh a b n,q.far a≤m∨q.far b≤m:=by
 have e1:∀p:PQ,(p.sub n).far p=n.dot n:=fun p=>by unfold PQ.far PQ.sub PQ.dot; simp only; grind
 have e2:∀p:PQ,(p.add n).far p=n.dot n:=fun p=>by unfold PQ.far PQ.add PQ.sub PQ.dot; simp only; grind
 intro q hq
 simp only [bh,List.mem_cons,List.not_mem_nil,or_false] at hq
 rcases hq with rfl|rfl|rfl|rfl
 ·left; rw [e1]; exact h
 ·right; rw [e1]; exact h
 ·right; rw [e2]; exact h
 ·left; rw [e2]; exact h
theorem Dq {p u:PQ} {s:SR} {l:List PQ} (h:gX p u s=(l,0)):∀q∈l,q.far p≤jq s:=by
 intro q hq
 unfold gX at h
 split at h
 ·injection h with h1 h2; exact absurd h2 (by decide)
 split at h
 ·injection h with h1 h2; exact absurd h2 (by decide)
 rename_i hu0
 split at h
 ·injection h with h1 h2; rw [←h1] at hq; cases hq
 split at h
 ·rename_i hc
  unfold I6 at h
  cases hf:dt u s.h s.tol.val with
  | none=>rw [hf] at h; injection h with h1 h2; exact absurd h2 (by decide)
  | some x =>
   obtain ⟨n,k⟩:=x
   rw [hf] at h
   simp only at h
   injection h with h3 h4
   obtain ⟨r,hr,o⟩:=kT hu0 hf
   have hn:n.dot n≤s.h*s.h:=by rw [hr,eW]; exact o.le
   have hm:=Ak hc
   have hh:=cQ s.h
   subst h3
   have e1:(p.sub n).far p=n.dot n:=by unfold PQ.far PQ.sub PQ.dot; simp only; grind
   have e2:((p.add ⟨n.y,-n.x⟩).sub n).far p=n.dot n*2:=by unfold PQ.far PQ.add PQ.sub PQ.dot; simp only; grind
   have e3:((p.add ⟨n.y,-n.x⟩).add n).far p=n.dot n*2:=by unfold PQ.far PQ.add PQ.sub PQ.dot; simp only; grind
   have e4:(p.add n).far p=n.dot n:=by unfold PQ.far PQ.add PQ.sub PQ.dot; simp only; grind
   simp only [bh,List.mem_cons,List.not_mem_nil,or_false] at hq
   rcases hq with rfl|rfl|rfl|rfl
   ·rw [e1]; grind
   ·rw [e2]; grind
   ·rw [e3]; grind
   ·rw [e4]; grind
 ·exact Rat.le_trans (Ds h q hq) (xK s)
theorem Ji {p:PQ} {s:SR} {l:List PQ} (h:fW p s=(l,0)):∀q∈l,q.far p≤jq s:=by
 intro q hq
 unfold fW at h
 split at h
 ·injection h with h1 h2; exact absurd h2 (by decide)
 split at h
 ·rename_i hc
  injection h with h1 h2
  subst h1
  have hm:=Ak hc
  have e1:((p.sub ⟨s.h,0⟩).sub ⟨0,s.h⟩).far p=s.h*s.h*2:=by unfold PQ.far PQ.sub PQ.dot; simp only; grind
  have e2:((p.add ⟨s.h,0⟩).sub ⟨0,s.h⟩).far p=s.h*s.h*2:=by unfold PQ.far PQ.add PQ.sub PQ.dot; simp only; grind
  have e3:((p.add ⟨s.h,0⟩).add ⟨0,s.h⟩).far p=s.h*s.h*2:=by unfold PQ.far PQ.add PQ.sub PQ.dot; simp only; grind
  have e4:((p.sub ⟨s.h,0⟩).add ⟨0,s.h⟩).far p=s.h*s.h*2:=by unfold PQ.far PQ.add PQ.sub PQ.dot; simp only; grind
  simp only [bh,List.mem_cons,List.not_mem_nil,or_false] at hq
  rcases hq with rfl|rfl|rfl|rfl
  ·rw [e1]; exact hm
  ·rw [e2]; exact hm
  ·rw [e3]; exact hm
  ·rw [e4]; exact hm
 split at h
 ·exact Rat.le_trans (Ds h q hq) (xK s)
 ·injection h with h1 h2; rw [←h1] at hq; cases hq
theorem Gu {c:List PQ} {closed:Bool} {s:SR} (hc:c≠[]) (hz:∀p∈c,p.sz≤1) (hs:s.Sml):∀x,(x,(0:Int))∈iz c closed s→∀q∈x,∃p∈c,q.far p≤jq s:=by
 have z:=fun i=>hz _ (d7 hc i)
 intro x h q hq
 unfold iz at h
 split at h
 ·rw [List.mem_singleton] at h
  exact ⟨_,d7 hc 0,Ji h.symm q hq⟩
 ·rcases List.mem_append.1 h with h|h
  ·obtain ⟨i,_,h⟩:=List.mem_map.1 h
   rcases kM h (z i) (z (i+1)) hs with ⟨_,he⟩|⟨n,rfl,_,_,u⟩
   ·exact absurd rfl he
   ·rcases BW (Rat.le_trans u.le (xK s)) q hq with k|k
    ·exact ⟨_,d7 hc i,k⟩
    ·exact ⟨_,d7 hc (i+1),k⟩
  rcases List.mem_append.1 h with h|h
  ·obtain ⟨i,_,h⟩:=List.mem_map.1 h
   refine ⟨_,d7 hc i,?_⟩
   rcases CD h q hq with k|⟨hj,k⟩
   ·exact Rat.le_trans k (xK s)
   ·exact Rat.le_trans k (FD hj)
  ·unfold lF at h
   split at h
   ·cases h
   ·simp only [List.mem_cons,List.not_mem_nil,or_false] at h
    rcases h with h|h
    ·exact ⟨_,d7 hc 0,Dq h.symm q hq⟩
    ·exact ⟨_,d7 hc _,Dq h.symm q hq⟩
theorem MT (q a b:PQ):yj q a b≤q.far a:=by
 have h:=MS q a b (s:=0) (by grind) (by grind)
 rwa [HY] at h
theorem Gv {c:List PQ} {closed:Bool} {s:SR} (hc:c≠[]) (hz:∀p∈c,p.sz≤1) (hs:s.Sml) {x:List PQ} (h:(x,(0:Int))∈iz c closed s) {q:PQ} (hq:q∈x):∃j,j<c.length∧yj q (aK c j) (aK c (j+1))≤jq s:=by
 obtain ⟨p,hp,hf⟩:=Gu hc hz hs x h q hq
 obtain ⟨j,hj,rfl⟩:=List.mem_iff_getElem.1 hp
 refine ⟨j,hj,Rat.le_trans (MT q _ _) ?_⟩
 have e:aK c j=c[j]:=by
  unfold aK
  rw [Nat.mod_eq_of_lt hj,List.getD_eq_getElem?_getD,List.getElem?_eq_getElem hj]; rfl
 rw [e]; exact hf
theorem DF {P:Program} {z:Bool} {ne:Nat} {Q:AEx→St→Prop} {t:Nat→AV} {f:Nat→BS} {n:Nat} {v:Option (Prop×AV)} {d:Option Tmp} {a b:Itm} {k2:List Itm} (S:(Nat→AV)→(Nat→BS)→Nat→Prop)
 (h1:∀k:List Itm,(∀t f n,S t f n→go P z ne Q k t f n)→oG P z ne Q v d (a::b::k) t f n) (h2:∀t f n,S t f n→go P z ne Q k2 t f n):oG P z ne Q v d (a::b::k2) t f n:=h1 k2 h2
theorem ri (l:List PR) (closed:Bool) (s:SR) (hl:l.length≤9223372036854775807) (hp:∀p∈l,p.Lm) (hs:s.Lm) (hi:s.In 1048576):ag Tryz.prog 12 [.agg [fK l,.bool closed],s.av] (.bool true):=by
 obtain ⟨b,kl,kb⟩:=iK l closed s hl hp hs
 have kw:=fP
 have rpr:=jS l
 have sro:=s.ro_cs
 have hsav:s.av = .agg s.cs:=rfl
 have slen:s.cs.length=11:=rfl
 have stk:s.cs.take 11=s.cs:=rfl
 rw [hsav] at kl ⊢
 refine Pg Tryz.func12 rfl [.tmp 4] rfl (by simp -implicitDefEqProofs [go_sem]) ?_
 cases b with
 | false =>
  clear kb
  generalize fK l=PL at *
  generalize s.cs=S at *
  simp -implicitDefEqProofs [go_sem,rpr,sro,slen,stk]
  refine ah _ kl (by simp [go_sem,rpr,sro]) ?_
  simp -implicitDefEqProofs [go_sem]
  refine ac kw ?_
  simp -implicitDefEqProofs [go_sem]
 | true =>
  have hL:=kb rfl
  clear kb
  have kp:=eE l closed s (by have:=hL.len; omega) hL.pts hL.nigh hi hL.sty
  rw [hsav] at kp
  have ki:=kR l closed (by have:=hL.len; omega) fun p hp=>(hL.pts p hp).mono
  have hcz:∀p∈l.map PR.val,p.sz≤4294967296:=fun p hp=>by
   obtain ⟨q,hq,rfl⟩:=List.mem_map.1 hp
   have:=(hL.pts q hq).sz
   omega
  have kc:=jF (l.map PR.val) closed (by rw [List.length_map]; have:=hL.len; omega) hcz
  have hF:=hL.facts closed _ rfl
  have hz:∀p∈bp (l.map PR.val) closed,p.sz≤1:=fun p hp=>by
   obtain ⟨q,hq,rfl⟩:=List.mem_map.1 (gO _ _ p hp)
   exact (hL.pts q hq).sz
  have hcl:=ja (l.map PR.val) closed
  rw [List.length_map] at hcl
  have hl8:=hL.len
  generalize bp (l.map PR.val) closed=C at *
  generalize c9 (l.map PR.val) closed s=X at *
  generalize l.map PR.val=Z at *
  have g1:=bI s.width hi.width.sm.ok
  have z1:=bR (x:=s.width.val)
  have rZ:=jt Z closed
  have rEC:=jt C closed
  have eX:qO X = .tup [yq X.1,.int .i64 X.2]:=rfl
  rw [eX] at kp
  have rX:=qf X.1
  have eCl:yT C closed = .agg [.sl 6 false (C.map eA),.bool closed]:=rfl
  rw [eCl] at kc rEC
  have eP:yq X.1 = .sl 1 false (X.1.map pL):=rfl
  rw [eP] at kp rX
  have stk3:s.cs.take 3=s.width.cells:=rfl
  have hwav:s.width.av = .agg s.width.cells:=rfl
  have wro:roL s.width.cells:=by have:=wc s.width; rw [hwav] at this; simpa only [ro] using this
  rw [hwav] at g1
  generalize hS:s.cs=S at *
  generalize hW:s.width.cells=W at *
  generalize fK l=PL at *
  generalize yT Z closed=EZ at *
  generalize hV:X.1.map pL=V at *
  simp -implicitDefEqProofs [go_sem,rpr,sro,slen,stk]
  refine ah _ kl (by simp [go_sem,rpr,sro]) ?_
  simp -implicitDefEqProofs [go_sem,slen,stk]
  refine ah _ kp (by simp [go_sem,rpr,sro]) ?_
  simp -implicitDefEqProofs [go_sem]
  refine ah _ ki (by simp [go_sem,rpr]) ?_
  simp -implicitDefEqProofs [go_sem]
  refine ah _ kc (by simp [go_sem,rZ]) ?_
  simp -implicitDefEqProofs [go_sem]
  by_cases e0:X.2=0
  rotate_left
  ·have v0:V=[]:=by rw [←hV,hF.err e0]; rfl
   simp -implicitDefEqProofs [go_sem,e0,v0]
   refine ac kw ?_
   simp -implicitDefEqProofs [go_sem]
  by_cases c0:C=[]
  ·simp -implicitDefEqProofs [go_sem,e0,c0]
   refine ac kw ?_
   simp -implicitDefEqProofs [go_sem]
  have hn0:0<C.length:=by have:=mt List.length_eq_zero_iff.1 c0; omega
  have i0:(1:Int)≤C.length:=by omega
  have i1:¬(C.length:Int)<1:=by omega
  have stk3':S.take 3=W:=by rw [←hS,←hW]; rfl
  by_cases w0:s.width.val≤0
  ·have w1:=z1.2 w0
   simp -implicitDefEqProofs [go_sem,e0,c0,i0,i1,slen,stk3']
   refine ah _ g1 (by simp [go_sem,wro]) ?_
   simp -implicitDefEqProofs [go_sem,e0,w1]
   refine ac kw ?_
   simp -implicitDefEqProofs [go_sem]
  have w1:¬aM s.width.val≤0:=fun h=>w0 (z1.1 h)
  obtain ⟨hsm,hfq⟩:=hF.ok e0 c0 (Rat.not_le.1 w0)
  simp -implicitDefEqProofs [go_sem,e0,c0,i0,i1,slen,stk3']
  refine ah _ g1 (by simp [go_sem,wro]) ?_
  simp -implicitDefEqProofs [go_sem,w1,slen,stk3']
  have zh:=hsm.h
  have hw2:=hsm.width
  have q1:=bM 1 2 (by omega) (by omega) (by omega)
  rw [←dc] at q1
  have q2:=dC s.width (qc bB) hi.width.sm (c_ (by have:=fv; omega))
  rw [br,hwav] at q2
  change ag _ _ [_,rA bB] (rA s.h) at q2
  have q3:=li s.h s.h (by omega) (by omega)
  have z3:=aJ s.h s.h
  have q4:=bM 2 1 (by omega) (by omega) (by omega)
  rw [show ((2:Int):Rat) / ((1:Int):Rat)=2 by grind] at q4
  have z4:sz (2:Rat)≤1:=by have:=gD (p:=2) (q:=1) (by omega) (by omega) (by omega); rwa [show ((2:Int):Rat) / ((1:Int):Rat)=2 by grind] at this
  have q5:=li (s.h*s.h) 2 (by omega) (by omega)
  have z5:=aJ (s.h*s.h) 2
  have q6:=dC s.miter s.miter hi.miter.sm hi.miter.sm
  have z6:=aJ s.miter.val s.miter.val
  have zm:=hsm.miter.sz
  have q7:=li (s.h*s.h) (s.miter.val*s.miter.val) (by omega) (by omega)
  have z7:=aJ (s.h*s.h) (s.miter.val*s.miter.val)
  simp only [bA] at q1 q2 q3 q4 q5 q6 q7
  refine aa q1 ?_
  simp -implicitDefEqProofs [go_sem]
  refine ao _ q2 (by simp [go_sem,wro]) ?_
  simp -implicitDefEqProofs [go_sem]
  refine ac q3 ?_
  simp -implicitDefEqProofs [go_sem,slen]
  have s6:S[6]'(by omega) = .int .i64 s.cap:=by subst hS; rfl
  have s7:S[7]'(by omega) = .int .i64 s.join:=by subst hS; rfl
  have hmav:s.miter.av = .agg s.miter.cells:=rfl
  have mro:roL s.miter.cells:=by have:=wc s.miter; rw [hmav] at this; simpa only [ro] using this
  have smt:(S.drop 3).take 3=s.miter.cells:=by subst hS; rfl
  rw [hmav] at q6
  have hmq:jq s=(let m1:=if s.cap=1 then s.h*s.h*2 else s.h*s.h; if s.join=0 then (if m1<s.h*s.h*(s.miter.val*s.miter.val) then s.h*s.h*(s.miter.val*s.miter.val) else m1) else m1):=rfl
  have zmo:sz (jq s)≤8:=by
   rw [hmq]
   simp only
   split<;>split<;>(try split)<;>omega
  obtain ⟨m1,hm1⟩:∃m1,m1=if s.cap=1 then s.h*s.h*2 else s.h*s.h:=⟨_,rfl⟩
  have zm1:sz m1≤3:=by rw [hm1]; split<;>omega
  simp only [←hm1] at hmq
  have q8:=oU (s.h*s.h*(s.miter.val*s.miter.val)) m1 (by omega) (by omega)
  simp only [bA] at q8
  refine DF (fun t f n=>9<n∧t 3 = .ptr 1 0 0∧t 4 = .bool false∧t 5 = .sl 1 false V∧t 7 = .ptr 2 0 0∧t 8 = .ptr 7 0 0∧t 9 = .ptr 9 0 0∧f 1 = .live 11 [.agg S]∧f 2 = .live 2 [.agg [.sl 6 false (C.map eA),.bool closed]]∧f 7 = .live 3 [.agg (rC s.h)]∧f 9 = .live 3 [.agg (rC m1)]) (fun k hk=>?_) ?_
  ·by_cases c1:s.cap=1
   ·rw [if_pos c1] at hm1
    simp -implicitDefEqProofs [go_sem,s6,c1]
    refine aa q4 ?_
    simp -implicitDefEqProofs [go_sem]
    refine aa q5 ?_
    simp -implicitDefEqProofs [go_sem]
    refine hk _ _ _ ?_
    rw [hm1]
    simp -implicitDefEqProofs [go_sem]
   ·rw [if_neg c1] at hm1
    simp -implicitDefEqProofs [go_sem,s6,c1]
    refine hk _ _ _ ?_
    rw [hm1]
    simp -implicitDefEqProofs [go_sem]
  ·rintro t f n ⟨hn9,t3,t4,t5,t7,t8,t9,f1,f2,f7,f9⟩
   have a1:¬1=n:=by omega
   have a2:¬2=n:=by omega
   have a7:¬7=n:=by omega
   have a9:¬9=n:=by omega
   simp -implicitDefEqProofs [go_sem,t3,f1,slen]
   refine DF (fun t f n=>9<n∧t 4 = .bool false∧t 5 = .sl 1 false V∧t 7 = .ptr 2 0 0∧t 9 = .ptr 9 0 0∧f 2 = .live 2 [.agg [.sl 6 false (C.map eA),.bool closed]]∧f 9 = .live 3 [.agg (rC (jq s))]) (fun k hk=>?_) ?_
   ·by_cases c1:s.join=0
    ·rw [if_pos c1] at hmq
     have b1:1<n:=by omega
     have b7:7<n:=by omega
     have b9:9<n:=by omega
     have b2:2<n:=by omega
     have l1:¬n≤1:=by omega
     have l2:¬n≤2:=by omega
     have l7:¬n≤7:=by omega
     have l9:¬n≤9:=by omega
     have e2:∀i,¬2=n+i:=fun i=>by omega
     have e9:∀i,¬9=n+i:=fun i=>by omega
     simp -implicitDefEqProofs [go_sem,s7,c1,t3,t8,t9,f1,f7,f9,slen,b1,b7,b9,l1,l7,l9]
     refine aa q3 ?_
     simp -implicitDefEqProofs [go_sem,t3,f1,slen,smt,b1,l1]
     refine ao _ q6 (by simp [go_sem,mro]) ?_
     simp -implicitDefEqProofs [go_sem]
     refine aa q7 ?_
     have n0:¬n=0:=by omega
     have g8:=iZ (x:=s.h*s.h*(s.miter.val*s.miter.val)) (y:=m1)
     simp -implicitDefEqProofs [go_sem,t9,b9,l9,f9,e9,n0]
     refine ac q8 ?_
     by_cases c2:m1<s.h*s.h*(s.miter.val*s.miter.val)
     ·rw [if_pos c2] at hmq
      have c3:=g8.2 c2
      simp -implicitDefEqProofs [go_sem,c3,t4,t5,t7,t9,b9,l9,f9,e9,n0]
      refine hk _ _ _ ?_
      rw [hmq]
      simp -implicitDefEqProofs [go_sem,t4,t5,t7,t9,f2,f9,hn9,b2,l2,e2,n0]
     ·rw [if_neg c2] at hmq
      have c3:¬0<bJ (s.h*s.h*(s.miter.val*s.miter.val)) m1:=fun h=>c2 (g8.1 h)
      simp -implicitDefEqProofs [go_sem,c3]
      refine hk _ _ _ ?_
      rw [hmq]
      simp -implicitDefEqProofs [go_sem,t4,t5,t7,t9,f2,f9,hn9,b2,l2,e2,b9,l9,e9,n0]
    ·rw [if_neg c1] at hmq
     simp -implicitDefEqProofs [go_sem,s7,c1]
     refine hk _ _ _ ?_
     rw [hmq]
     simp -implicitDefEqProofs [go_sem,t4,t5,t7,t9,f2,f9,hn9]
   ·clear hn9 t3 t4 t5 t7 t8 t9 f1 f2 f7 f9 a1 a2 a7 a9
    rintro t f n ⟨hn9,t4,t5,t7,t9,f2,f9⟩
    have hC:∀i (h:i<C.length),bU (C.map eA) (i:Int) = .agg (eC C[i]):=fun i h=>f_ h
    have hCl:(C.map eA).length=C.length:=by simp
    have hVl:V.length=X.1.length:=by rw [←hV]; simp
    have hVg:∀i (h:i<X.1.length),bU V (i:Int) = .sl 6 false (X.1[i].map pA):=fun i h=>by rw [←hV]; exact dM h
    have hVr:roL V:=by rw [←hV]; exact ma _
    have hCr:=cY C
    have hside:∀x∈X.1,∀q∈x,∃j,j<C.length∧yj q (aK C j) (aK C (j+1))≤jq s:=fun x hx q hq=>Gv c0 hz hsm ((lJ _ _ hfq).1 x hx).2 hq
    have hat:∀i (h:i<C.length),C[i]=aK C i:=fun i h=>(wL h).symm
    generalize jq s=M at *
    generalize C.map eA=CA at *
    have hF2:=hF.fine
    have hF3:=hF.len
    clear kl kp ki kc hF g1 z1 hfq
    simp -implicitDefEqProofs [go_sem]
    refine ap 2 (α:={i:Nat // i≤X.1.length}) (fun i=>[(5,.sl 1 false V),(7,.ptr 0 0 0),(9,.ptr 1 0 0),(11,.int .i64 i.1)]) (fun _=>[(0,.live 2 [.agg [.sl 6 false CA,.bool closed]]),(1,.live 3 [.agg (rC M)])]) (fun i=>X.1.length-i.1) ⟨0,Nat.zero_le _⟩ [(0,2),(1,9)] (by simp) (by simp [nm]) (by simp) (by simp -implicitDefEqProofs [go_sem,t5,t7,t9,renL_ro (nm [(0,2),(1,9)]) _ hVr,cloL_ro (n:=2) _ hVr]) (by simp -implicitDefEqProofs [go_sem,f2,f9,renL_ro (nm [(0,2),(1,9)]) _ hCr,cloL_ro (n:=2) _ hCr]) fun ⟨i,hi⟩=>?_
    by_cases ai:i<X.1.length
    rotate_left
    ·have ai':¬(i:Int)<X.1.length:=by omega
     simp -implicitDefEqProofs [go_sem,ai',hVl]
     refine ac kw ?_
     simp -implicitDefEqProofs [go_sem]
    have ai':(i:Int)<X.1.length:=by omega
    have es:=wS i (by omega)
    have gi:=hVg i ai
    have hx:=List.getElem_mem ai
    have hsx:=hside _ hx
    have hfx:=hF2 _ hx
    generalize X.1[i]=x at *
    simp -implicitDefEqProofs [go_sem,ai,ai',hVl]
    refine ap 2 (α:={k:Nat // k≤x.length}) (fun k=>[(5,.sl 1 false V),(7,.ptr 0 0 0),(9,.ptr 1 0 0),(11,.int .i64 i),(12,.int .i64 k.1)]) (fun _=>[(0,.live 2 [.agg [.sl 6 false CA,.bool closed]]),(1,.live 3 [.agg (rC M)])]) (fun k=>x.length-k.1) ⟨0,Nat.zero_le _⟩ [] (by simp) (by simp [nm]) (by simp) (by simp -implicitDefEqProofs [go_sem,renL_ro (nm []) _ hVr,cloL_ro (n:=2) _ hVr]) (by simp -implicitDefEqProofs [go_sem,renL_ro (nm []) _ hCr,cloL_ro (n:=2) _ hCr]) fun ⟨k,hk⟩=>?_
    have hxl:(x.map pA).length=x.length:=by simp
    have hxg:∀i (h:i<x.length),bU (x.map pA) (i:Int) = .agg (pC x[i]):=fun i h=>eV h
    have hxr:=bK x
    generalize x.map pA=xA at *
    by_cases ak:k<x.length
    rotate_left
    ·have ak':¬(k:Int)<x.length:=by omega
     simp -implicitDefEqProofs [go_sem,ak',ai,ai',hVl,gi,hxl,es]
     exact ae ⟨i+1,by omega⟩ (by simp only; omega) [] (by simp) (by simp [nm]) (by simp) (by simp -implicitDefEqProofs [go_sem,renL_ro (nm []) _ hVr,cloL_ro (n:=2) _ hVr]) (by simp -implicitDefEqProofs [go_sem,renL_ro (nm []) _ hCr,cloL_ro (n:=2) _ hCr])
    have ak':(k:Int)<x.length:=by omega
    have esk:IntKind.i64.wrap ((k:Int)+1)=(k+1:Nat):=by rw [bS (by have:=hfx.1; omega)]; omega
    have gk:=hxg k ak
    have hq:=List.getElem_mem ak
    obtain ⟨j0,hj0,hj1⟩:=hsx _ hq
    have hfq:=hfx.2 _ hq
    generalize x[k]=q at *
    simp -implicitDefEqProofs [go_sem,ak,ak',ai,ai',hVl,gi,hxl]
    refine ap 2 (α:={j:Nat // j≤C.length}) (fun j=>[(5,.sl 1 false V),(7,.ptr 0 0 0),(9,.ptr 1 0 0),(11,.int .i64 i),(12,.int .i64 k),(13,.bool (decide (∃j',j'<j.1∧yj q (aK C j') (aK C (j'+1))≤M))),(14,.int .i64 j.1)]) (fun _=>[(0,.live 2 [.agg [.sl 6 false CA,.bool closed]]),(1,.live 3 [.agg (rC M)])]) (fun j=>C.length-j.1) ⟨0,Nat.zero_le _⟩ [] (by simp) (by simp [nm]) (by simp) (by simp -implicitDefEqProofs [go_sem,renL_ro (nm []) _ hVr,cloL_ro (n:=2) _ hVr]) (by simp -implicitDefEqProofs [go_sem,renL_ro (nm []) _ hCr,cloL_ro (n:=2) _ hCr]) fun ⟨j,hj⟩=>?_
    by_cases aj:j<C.length
    rotate_left
    ·have aj':¬(j:Int)<C.length:=by omega
     have hT:(∃j',j'<j∧yj q (aK C j') (aK C (j'+1))≤M):=⟨j0,by omega,hj1⟩
     simp -implicitDefEqProofs [go_sem,aj',hCl,hT,esk]
     exact ae ⟨k+1,by omega⟩ (by simp only; omega) [] (by simp) (by simp [nm]) (by simp) (by simp -implicitDefEqProofs [go_sem,renL_ro (nm []) _ hVr,cloL_ro (n:=2) _ hVr]) (by simp -implicitDefEqProofs [go_sem,renL_ro (nm []) _ hCr,cloL_ro (n:=2) _ hCr])
    have aj':(j:Int)<C.length:=by omega
    have esj:=wT j (by omega)
    have esj2:(j:Int)+1=(j+1:Nat):=by omega
    have em:Int.tmod ((j:Int)+1) (C.length:Int)=((j+1)%C.length:Nat):=by rw [Int.tmod_eq_emod_of_nonneg (by omega)]; rfl
    have hm:(j+1)%C.length<C.length:=Nat.mod_lt _ hn0
    have l0:¬C.length=0:=by omega
    have gj:=hC j aj
    have gm:=hC _ hm
    rw [hat j aj] at gj
    rw [hat _ hm,rm] at gm
    have zj:=hz _ (d7 c0 j)
    have zm1:=hz _ (d7 c0 (j+1))
    have ka:=eO (aK C j) (by omega)
    have kb:=eO (aK C (j+1)) (by omega)
    have kt:=J9 q (aK C j) (aK C (j+1)) (by omega) (by omega) (by omega)
    have zt:=MO (p:=q) (a:=aK C j) (b:=aK C (j+1)) (n:=30000) (by omega) (by omega) (by omega)
    have kc:=oU (yj q (aK C j) (aK C (j+1))) M (by omega) (by omega)
    have gl:=iu (x:=yj q (aK C j) (aK C (j+1))) (y:=M)
    have hN:decide (∃j',j'<j+1∧yj q (aK C j') (aK C (j'+1))≤M)=(decide (∃j',j'<j∧yj q (aK C j') (aK C (j'+1))≤M) || decide (yj q (aK C j) (aK C (j+1))≤M)):=by
     rw [←Bool.decide_or,decide_eq_decide]
     constructor
     ·rintro ⟨j',h1,h2⟩
      by_cases e:j'=j
      ·subst e; exact .inr h2
      ·exact .inl ⟨j',by omega,h2⟩
     ·rintro (⟨j',h1,h2⟩|h)
      ·exact ⟨j',by omega,h2⟩
      ·exact ⟨j,by omega,h⟩
    generalize decide (∃j',j'<j∧yj q (aK C j') (aK C (j'+1))≤M)=B at *
    generalize yj q (aK C j) (aK C (j+1))=T at *
    generalize (j+1)%C.length=jm at *
    simp only [aP,aQ,bA] at ka kb kt kc
    simp -implicitDefEqProofs [go_sem,aj,aj',hCl,l0,gj,gm,esj,em,hm]
    refine aa ka ?_
    simp -implicitDefEqProofs [go_sem,aj,aj',hCl,l0,gj,gm,esj,em,hm]
    refine aa kb ?_
    cases B
    ·simp -implicitDefEqProofs [go_sem,ak,ak',ai,ai',hVl,gi,hxl,gk]
     refine aa kt ?_
     simp -implicitDefEqProofs [go_sem]
     refine aa kc ?_
     simp -implicitDefEqProofs [go_sem,esj]
     exact ae ⟨j+1,by omega⟩ (by simp only; omega) [] (by simp) (by simp [nm]) (by simp) (by simp only [hN]; simp -implicitDefEqProofs [go_sem,gl,renL_ro (nm []) _ hVr,cloL_ro (n:=2) _ hVr]) (by simp -implicitDefEqProofs [go_sem,renL_ro (nm []) _ hCr,cloL_ro (n:=2) _ hCr])
    ·simp -implicitDefEqProofs [go_sem,esj]
     exact ae ⟨j+1,by omega⟩ (by simp only; omega) [] (by simp) (by simp [nm]) (by simp) (by simp only [hN]; simp -implicitDefEqProofs [go_sem,gl,renL_ro (nm []) _ hVr,cloL_ro (n:=2) _ hVr]) (by simp -implicitDefEqProofs [go_sem,renL_ro (nm []) _ hCr,cloL_ro (n:=2) _ hCr])
end Go.Proofs.YtdnmfaljidjijaaGreat
