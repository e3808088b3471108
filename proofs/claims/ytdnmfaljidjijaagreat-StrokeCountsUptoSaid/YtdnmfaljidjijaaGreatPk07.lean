import Derived.Test.YtdnmfaljidjijaaGreatPk05
import Derived.Test.YtdnmfaljidjijaaGreatProg
import Derived.Test.YtdnmfaljidjijaaGreatRows
namespace Go.Proofs.YtdnmfaljidjijaaGreat
set_option maxHeartbeats 16000000
open Go Go.Proofs
@[go_sem] theorem S9:az Tryz.prog 177=some ⟨18,336,(.struct [(0,72),(6,72),(12,72)]),[(.bool false),(.sl 0 true []),(.sl 0 true []),(.bool false),(.sl 0 true []),(.sl 0 true []),(.bool false),(.sl 0 true []),(.sl 0 true []),(.bool false),(.sl 0 true []),(.sl 0 true []),(.bool false),(.sl 0 true []),(.sl 0 true []),(.bool false),(.sl 0 true []),(.sl 0 true [])]⟩:=by kernel_rfl
set_option linter.unusedSimpArgs false
set_option linter.unusedVariables false
set_option maxRecDepth 20000
theorem ve (x:Rat):ag Tryz.prog 66 [fA x] (fA x.abs):=by
 have h1:x.abs.num=(x.num.natAbs:Int):=by
  unfold Rat.abs
  split
  ·have:=Rat.num_nonneg.2 (by assumption:0≤x); omega
  ·rename_i h
   have:¬0≤x.num:=fun h2=>h (Rat.num_nonneg.1 h2)
   rw [Rat.neg_num]; omega
 have h2:x.abs.den=x.den:=by
  unfold Rat.abs; split
  ·rfl
  ·exact Rat.neg_den _
 refine Pg Tryz.func66 rfl [.cell 2 45] rfl (iJ _) ?_
 unfold fA qA
 rw [h1,h2]
 have h3:decide ((x.num.natAbs:Int)<0)=false:=by simp
 rw [h3,Int.natAbs_natCast]
 simp -implicitDefEqProofs [go_sem,aL]
theorem EX (x y:Rat) (hx:sz x≤17179869184) (hy:sz y≤17179869184):ag Tryz.prog 232 [fA x,fA y] (fA (if x<y then y else x)):=by
 have h:=bC y x hy hx
 have hc := @iZ y x
 generalize bJ y x=c at *
 refine Pg Tryz.func232 rfl [.cell 4 45] rfl (iJ _) ?_
 by_cases hl:x<y
 ·have h0:=hc.2 hl
  rw [if_pos hl]
  unfold fA qA at *
  simp -implicitDefEqProofs [go_sem]
  refine ac h ?_
  simp -implicitDefEqProofs [go_sem,h0,aL]
 ·have h0:¬0<c:=fun h=>hl (hc.1 h)
  rw [if_neg hl]
  unfold fA qA at *
  simp -implicitDefEqProofs [go_sem]
  refine ac h ?_
  simp -implicitDefEqProofs [go_sem,h0,aL]
theorem Ag {x y:Rat} (hy:0<y) (h:x*x<y*y):x<y:=by
 rcases (Rat.le_total:x≤y∨y≤x) with h1|h1
 ·rcases Classical.em (x=y) with h2|h2
  ·subst h2; grind
  ·grind
 ·have:=Rat.mul_nonneg (show 0≤x-y by grind) (show 0≤x+y by grind)
  grind
theorem dr (p q:PQ) (hp:p.sz≤17179869184) (hq:q.sz≤17179869184):ag Tryz.prog 100 [eA p,eA q] (eA (p.sub q)):=by
 obtain ⟨p1,p2⟩:=eg p hp
 obtain ⟨q1,q2⟩:=eg q hq
 have h1:=eT p.x q.x p1 q1
 have h2:=eT p.y q.y p2 q2
 refine Pg Tryz.func100 rfl [.cell 4 118] rfl (qE _) ?_
 simp only [aP,bc] at *
 simp -implicitDefEqProofs [go_sem]
 refine aa h1 ?_
 simp -implicitDefEqProofs [go_sem]
 refine aa h2 ?_
 simp -implicitDefEqProofs [go_sem,aL,PQ.sub]
theorem bT (p q:PQ) (hp:p.sz≤4294967296) (hq:q.sz≤4294967296):ag Tryz.prog 193 [eA p,eA q] (fA (p.dot q)):=by
 obtain ⟨p1,p2⟩:=eg p hp
 obtain ⟨q1,q2⟩:=eg q hq
 have h1:=aN p.x q.x (by omega) (by omega)
 have h2:=aN p.y q.y (by omega) (by omega)
 have s1:=aJ p.x q.x; have s2:=aJ p.y q.y
 have h3:=fH (p.x*q.x) (p.y*q.y) (by omega) (by omega)
 rw [show p.x*q.x+p.y*q.y=p.dot q from rfl] at h3
 refine Pg Tryz.func193 rfl [.cell 4 45] rfl (iJ _) ?_
 simp only [aP,bc] at *
 simp -implicitDefEqProofs [go_sem]
 refine aa h1 ?_
 simp -implicitDefEqProofs [go_sem]
 refine aa h2 ?_
 simp -implicitDefEqProofs [go_sem]
 refine aa h3 ?_
 simp -implicitDefEqProofs [go_sem,aL]
theorem yR (c:PR) (h tol:RQ) (hh:h.Lm) (ht:tol.Lm):ag Tryz.prog 174 [c.av,h.av,tol.av] (.bool (decide (nq c h tol))):=by
 have s1:=i8 c 1
 have s2:=i7 h 1
 have s3:=i7 tol 1
 change ag _ _ _ (.bool (decide (h.sml 1))) at s2
 change ag _ _ _ (.bool (decide (tol.sml 1))) at s3
 rw [show ((1:Nat):Int)=1 from rfl] at s1 s2 s3
 obtain ⟨cc,hcc,c1,c2,c3,c4⟩:∃cc,c.av = .agg cc∧cc.length=6∧cc.take 6=cc∧cc.drop 6=[]∧roL cc:=⟨_,rfl,rfl,rfl,rfl,by have:=ju c; unfold PR.av at this; simpa only [ro] using this⟩
 obtain ⟨ch,hch,d1,d2,d3,d4⟩:∃ch,h.av = .agg ch∧ch.length=3∧ch.take 3=ch∧ch.drop 3=[]∧roL ch:=⟨_,rfl,rfl,rfl,rfl,gy h⟩
 obtain ⟨ct,hct,t1,t2,t3,t4⟩:∃ct,tol.av = .agg ct∧ct.length=3∧ct.take 3=ct∧ct.drop 3=[]∧roL ct:=⟨_,rfl,rfl,rfl,rfl,gy tol⟩
 have f1:=fun (a:h.sml 1)=>finr h (bL a hh).mono
 have f2:=fun (a:tol.sml 1)=>finr tol (bL a ht).mono
 rw [hcc] at s1
 simp only [hch,hct] at s2 s3 f1 f2
 refine Pg Tryz.func174 rfl [.tmp 6] rfl (by simp -implicitDefEqProofs [go_sem]) ?_
 rw [hcc,hch,hct]
 simp -implicitDefEqProofs [go_sem,c1,c2,d1,d2,t1,t2]
 refine ah _ s1 (by simp [go_sem,c4]) ?_
 by_cases a1:c.x.sml 1∧c.y.sml 1
 ·simp -implicitDefEqProofs [go_sem,a1,d1,d2]
  refine ah _ s2 (by simp [go_sem,d4]) ?_
  by_cases a2:h.sml 1
  ·simp -implicitDefEqProofs [go_sem,a2,t1,t2]
   refine ah _ s3 (by simp [go_sem,t4]) ?_
   by_cases a3:tol.sml 1
   ·have g1:=f1 a2
    have g2:=f2 a3
    have zh:=(bL a2 hh).sz
    have zt:=(bL a3 ht).sz
    have h1:=aE h.val
    have h2:=aE tol.val
    have h3:=cG 400 1 (by omega) (by omega) (by omega)
    have z3:=gD (p:=400) (q:=1) (by omega) (by omega) (by omega)
    rw [show ((400:Int):Rat) / ((1:Int):Rat)=400 by grind] at h3 z3
    have h4:=aN tol.val 400 (by omega) (by omega)
    have z4:=aJ tol.val 400
    have h5:=bC h.val (tol.val*400) (by omega) (by omega)
    have hLD:nq c h tol↔(h.val≤0∨tol.val≤0∨h.val≤tol.val*400):=⟨fun h=>h.2.2.2,fun h=>⟨a1,a2,a3,h⟩⟩
    simp only [hLD]
    simp only [bc] at *
    simp -implicitDefEqProofs [go_sem,a3,d1,d2,t1,t2]
    refine ao _ g1 (by simp [go_sem,d4]) ?_
    simp -implicitDefEqProofs [go_sem,t1,t2]
    refine ao _ g2 (by simp [go_sem,t4]) ?_
    simp -implicitDefEqProofs [go_sem]
    refine aa h1 ?_
    by_cases b1:h.val≤0
    ·have:=bR.2 b1
     simp -implicitDefEqProofs [go_sem,this,b1]
    ·have:¬aM h.val≤0:=fun hh=>b1 (bR.1 hh)
     simp -implicitDefEqProofs [go_sem,this,b1]
     refine aa h2 ?_
     by_cases b2:tol.val≤0
     ·have:=bR.2 b2
      simp -implicitDefEqProofs [go_sem,this,b2]
     ·have:¬aM tol.val≤0:=fun hh=>b2 (bR.1 hh)
      simp -implicitDefEqProofs [go_sem,this,b2]
      refine aa h3 ?_
      simp -implicitDefEqProofs [go_sem]
      refine aa h4 ?_
      simp -implicitDefEqProofs [go_sem]
      refine aa h5 ?_
      by_cases b3:h.val≤tol.val*400
      ·have:=iu.2 b3
       simp -implicitDefEqProofs [go_sem,this,b3]
      ·have:¬bJ h.val (tol.val*400)≤0:=fun hh=>b3 (iu.1 hh)
       simp -implicitDefEqProofs [go_sem,this,b3]
   ·have hLD:¬nq c h tol:=fun h=>a3 h.2.2.1
    simp -implicitDefEqProofs [go_sem,a3,hLD]
  ·have hLD:¬nq c h tol:=fun h=>a2 h.2.1
   simp -implicitDefEqProofs [go_sem,a2,hLD]
 ·have hLD:¬nq c h tol:=fun h=>a1 h.1
  simp -implicitDefEqProofs [go_sem,a1,hLD]
theorem Av {a b d:PQ} {H:Rat} (ha:a.dot a=H) (hb:b.dot b=H) (hd:d.dot d=H) (h1:0<a.cross b) (h2:0<b.cross d):0<(b.sub a).cross (d.sub a):=by
 have hH0:0≤H:=by rw [←ha]; exact a.dot_nn
 have e1:a.dot b*a.dot b+a.cross b*a.cross b=H*H:=by
  unfold PQ.dot PQ.cross at *; grind
 have e2:b.dot d*b.dot d+b.cross d*b.cross d=H*H:=by
  unfold PQ.dot PQ.cross at *; grind
 have e3:H*(b.sub a).cross (d.sub a)=a.cross b*(H-b.dot d)+b.cross d*(H-a.dot b):=by
  unfold PQ.dot PQ.cross PQ.sub at *
  simp only
  grind
 have p1:=Rat.mul_pos h1 h1
 have p2:=Rat.mul_pos h2 h2
 have hH:0<H:=by
  rcases Classical.em (H=0) with h|h
  ·rw [h] at e1
   have:=cQ (a.dot b)
   grind
  ·grind
 have l1:a.dot b<H:=Ag hH (by grind)
 have l2:b.dot d<H:=Ag hH (by grind)
 have q1:=Rat.mul_pos h1 (show 0<H-b.dot d by grind)
 have q2:=Rat.mul_pos h2 (show 0<H-a.dot b by grind)
 have q3:0<H*(b.sub a).cross (d.sub a):=by rw [e3]; grind
 rcases Classical.em (0<(b.sub a).cross (d.sub a)) with h|h
 ·exact h
 ·have:=Rat.mul_nonneg hH0 (show 0 ≤ - (b.sub a).cross (d.sub a) by grind)
  grind
theorem MW (m i:Nat):(uP m i).dot (uP m i)=1:=by
 have h:=qa m i
 unfold uP kQ PQ.scale PQ.dot
 simp only
 have:(1:Rat) / (1+tQ m i*tQ m i)*(1+tQ m i*tQ m i)=1:=by grind
 generalize (1:Rat) / (1+tQ m i*tQ m i)=k at *
 generalize tQ m i=t at *
 have e:(1-t*t)*k*((1-t*t)*k)+(t+t)*k*((t+t)*k)=(k*(1+t*t))*(k*(1+t*t)):=by grind
 rw [e,this]; grind
theorem IU {m i:Nat} (hi:i+1≤m):0<(uP m i).cross (uP m (i+1)):=by
 have hm:(0:Rat)<(m:Rat):=by exact_mod_cast (show 0<m by omega)
 have h0:(0:Rat)≤(i:Rat):=by exact_mod_cast Nat.zero_le i
 have ht:tQ m (i+1)=tQ m i+1 / (m:Rat):=by
  unfold tQ
  simp only [Rat.intCast_natCast]
  have:((i+1:Nat):Rat)=(i:Rat)+1:=by exact_mod_cast rfl
  rw [this]; grind
 have ht0:0≤tQ m i:=by
  unfold tQ
  simp only [Rat.intCast_natCast]
  rw [Rat.div_def]
  exact Rat.mul_nonneg h0 (Rat.le_of_lt (Rat.inv_pos.2 hm))
 have hd:0<1 / (m:Rat):=by
  rw [Rat.div_def,Rat.one_mul]
  exact Rat.inv_pos.2 hm
 have o1:=qa m i
 have o2:=qa m (i+1)
 have k1:kQ m i*(1+tQ m i*tQ m i)=1:=by unfold kQ; grind
 have k2:kQ m (i+1)*(1+tQ m (i+1)*tQ m (i+1))=1:=by unfold kQ; grind
 rw [ht] at k2
 unfold uP PQ.scale PQ.cross
 simp only
 rw [ht]
 generalize kQ m i=a at *
 generalize kQ m (i+1)=b at *
 generalize tQ m i=t at *
 generalize 1 / (m:Rat)=d at *
 have e:(1-t*t)*a*((t+d+(t+d))*b)-(t+t)*a*((1-(t+d)*(t+d))*b)=a*b*(2*d*(1+t*(t+d))):=by grind
 rw [e]
 have s1:=cQ t
 have s2:=cQ (t+d)
 have pa:0<a:=by
  rcases Classical.em (0<a) with h|h
  ·exact h
  ·have:=Rat.mul_nonneg (show 0 ≤ -a by grind) (show 0≤1+t*t by grind)
   grind
 have pb:0<b:=by
  rcases Classical.em (0<b) with h|h
  ·exact h
  ·have:=Rat.mul_nonneg (show 0 ≤ -b by grind) (show 0≤1+(t+d)*(t+d) by grind)
   grind
 have:=Rat.mul_nonneg ht0 (show 0≤t+d by grind)
 exact Rat.mul_pos (Rat.mul_pos pa pb) (Rat.mul_pos (by grind) (by grind))
theorem Kh (p q:PQ):p.rot.dot q.rot=p.dot q:=by unfold PQ.rot PQ.dot; simp only; grind
theorem FV (p q:PQ):p.rot.cross q.rot=p.cross q:=by unfold PQ.rot PQ.cross; simp only; grind
theorem IA (j:Nat) (p q:PQ):(bN j p).dot (bN j q)=p.dot q:=by
 induction j with
 | zero=>rfl
 | succ j ih=>simp only [bN,Kh,ih]
theorem CS (j:Nat) (p q:PQ):(bN j p).cross (bN j q)=p.cross q:=by
 induction j with
 | zero=>rfl
 | succ j ih=>simp only [bN,FV,ih]
theorem sC (h:Rat) (m k:Nat):(dR h m k).dot (dR h m k)=h*h:=by
 have:=IA (k / m) (uP m (k%m)) (uP m (k%m))
 rw [MW] at this
 unfold dR PQ.scale
 unfold PQ.dot at *
 simp only
 grind
theorem Lu {c:PQ} {h:Rat} {m k:Nat} (hm:1≤m) (hk:k<4*m):c.add (dR h m ((k+1)%(4*m)))=c.add ((bN (k / m) (uP m (k%m+1))).scale h):=by
 rw [←su hm (Nat.mod_lt _ (by omega)),w_ _ _ _ hm _ hk]; rfl
theorem wH {c p q:PQ} (h:c.add p=c.add q):p=q:=by
 unfold PQ.add at h
 rw [PQ.mk.injEq] at h
 exact PQ.ext (by grind) (by grind)
theorem Jd (h:Rat) {m k:Nat} (hm:1≤m) (hk:k<4*m):dR h m ((k+1)%(4*m))=(bN (k / m) (uP m (k%m+1))).scale h:=wH (Lu (c:=⟨0,0⟩) hm hk)
theorem sy {h:Rat} (h0:0<h) {m k:Nat} (hm:1≤m) (hk:k<4*m):0<(dR h m k).cross (dR h m ((k+1)%(4*m))):=by
 rw [Jd h hm hk]
 have h1:=CS (k / m) (uP m (k%m)) (uP m (k%m+1))
 have h2:=IU (m:=m) (i:=k%m) (by have:=Nat.mod_lt k (show 0<m by omega); omega)
 rw [←h1] at h2
 unfold dR PQ.scale PQ.cross at *
 simp only
 have:=Rat.mul_pos (Rat.mul_pos h0 h0) h2
 grind
theorem uW {h:Rat} (h0:0<h) {m k:Nat} (hm:1≤m) (hk:k<4*m):0<((dR h m ((k+1)%(4*m))).sub (dR h m k)).cross ((dR h m ((k+2)%(4*m))).sub (dR h m k)):=by
 have h1:=sy h0 hm hk
 have h2:=sy h0 hm (k:=(k+1)%(4*m)) (Nat.mod_lt _ (by omega))
 have e:((k+1)%(4*m)+1)%(4*m)=(k+2)%(4*m):=by rw [Nat.mod_add_mod]
 rw [e] at h2
 exact Av (sC ..) (sC ..) (sC ..) h1 h2
theorem I8 {c:PQ} {h:Rat} (h0:0<h) {m:Nat} (hm:1≤m):∀i,i≤4*m→∃B:Rat,0≤B∧(0<i→0<B)∧aS (dL c h m 4) i=B+c.cross ((dR h m (i%(4*m))).sub (dR h m 0)):=by
 have hl:(dL c h m 4).length=4*m:=da ..
 intro i
 induction i with
 | zero =>
  intro _
  refine ⟨0,by grind,by simp,?_⟩
  rw [Nat.zero_mod]
  simp only [aS]
  unfold PQ.cross PQ.sub; simp only; grind
 | succ i ih =>
  intro hi
  obtain ⟨B,b0,_,b2⟩:=ih (by omega)
  have hc:=sy h0 hm (k:=i) (by omega)
  refine ⟨B+(dR h m i).cross (dR h m ((i+1)%(4*m))),by grind,fun _=>by grind,?_⟩
  have g1:(dL c h m 4).getD i ⟨0,0⟩=c.add (dR h m i):=by
   rw [←su hm (by omega),List.getD_eq_getElem?_getD,List.getElem?_eq_getElem (by omega)]; rfl
  have g2:(dL c h m 4).getD ((i+1)%(dL c h m 4).length) ⟨0,0⟩=c.add (dR h m ((i+1)%(4*m))):=by
   have hlt:(i+1)%(4*m)<4*m:=Nat.mod_lt _ (by omega)
   have e:(i+1)%(dL c h m 4).length=(i+1)%(4*m):=by rw [hl]
   rw [e,←su hm hlt,List.getD_eq_getElem?_getD,List.getElem?_eq_getElem (by omega)]; rfl
  simp only [aS,b2,g1,g2]
  rw [Nat.mod_eq_of_lt (show i<4*m by omega)]
  generalize dR h m i=p
  generalize dR h m ((i+1)%(4*m))=q
  generalize dR h m 0=o
  unfold PQ.cross PQ.sub PQ.add; simp only; grind
theorem Es {c:PQ} {h:Rat} (h0:0<h) {m:Nat} (hm:1≤m):0<er (dL c h m 4):=by
 obtain ⟨B,_,b1,b2⟩:=I8 (c:=c) h0 hm (4*m) (Nat.le_refl _)
 rw [Nat.mod_self] at b2
 have:=b1 (by omega)
 unfold er bB
 rw [show (dL c h m 4).length=4*m from da ..,b2]
 unfold PQ.cross PQ.sub; simp only
 grind
theorem I9 (c r:PQ):(c.add r).sub c=r:=by
 unfold PQ.add PQ.sub
 exact PQ.ext (by simp only; grind) (by simp only; grind)
def uR (m k:Nat):PQ:=bN (k / m) (uP m (k%m))
theorem GR (h:Rat) (m k:Nat):dR h m k=(uR m k).scale h:=rfl
def Lr (m:Nat):Bool:=(List.range (4*m)).all fun i=>(List.range (4*m)).all fun k=>(decide (k=i) || !decide (uR m i=uR m k)) && decide (0≤((uR m ((i+1)%(4*m))).sub (uR m i)).cross ((uR m k).sub (uR m i)))
theorem R4:Lr 1=true:=by decide +kernel
theorem R5:Lr 2=true:=by decide +kernel
theorem R6:Lr 4=true:=by decide +kernel
theorem Dl {m:Nat} (h:Lr m=true) {i k:Nat} (hi:i<4*m) (hk:k<4*m):(k≠i→uR m i≠uR m k)∧0≤((uR m ((i+1)%(4*m))).sub (uR m i)).cross ((uR m k).sub (uR m i)):=by
 unfold Lr at h
 simp only [List.all_eq_true,List.mem_range,Bool.and_eq_true,Bool.or_eq_true,decide_eq_true_eq,Bool.not_eq_true',decide_eq_false_iff_not] at h
 obtain ⟨h1,h2⟩:=h i hi k hk
 exact ⟨fun hne=>h1.resolve_left hne,h2⟩
theorem FW {h:Rat} (h0:0<h) {p q:PQ} (e:p.scale h=q.scale h):p=q:=by
 unfold PQ.scale at e
 rw [PQ.mk.injEq] at e
 refine PQ.ext ?_ ?_
 ·have:(p.x-q.x)*h=0:=by grind
  rcases Rat.mul_eq_zero.1 this with h|h<;>grind
 ·have:(p.y-q.y)*h=0:=by grind
  rcases Rat.mul_eq_zero.1 this with h|h<;>grind
theorem yN (p q r:PQ) (h:Rat):((q.scale h).sub (p.scale h)).cross ((r.scale h).sub (p.scale h))=h*h*(q.sub p).cross (r.sub p):=by
 unfold PQ.scale PQ.sub PQ.cross
 simp only
 grind
theorem HK {e:Nat} (hle:2 ^ e≤4):Lr (2 ^ e)=true:=by
 have:e≤2:=by
  rcases Nat.lt_or_ge 2 e with h|h
  ·have:2 ^ 3≤2 ^ e:=Nat.pow_le_pow_right (by omega) h
   omega
  ·exact h
 rcases (by omega:e=0∨e=1∨e=2) with rfl|rfl|rfl
 ·exact R4
 ·exact R5
 ·exact R6
theorem Az (k:Nat):(0:Rat)<((2 ^ k:Nat):Rat):=by exact_mod_cast Nat.pow_pos (n:=k) (show 0<2 by omega)
theorem DP (q:Rat) (k:Nat):0≤cV q k:=by
 unfold cV
 rw [Rat.div_def]
 refine Rat.mul_nonneg (by exact_mod_cast Nat.zero_le _) (Rat.le_of_lt (Rat.inv_pos.2 (Az k)))
theorem So (k:Nat):((2 ^ (2*k):Nat):Rat)=((2 ^ k:Nat):Rat)*((2 ^ k:Nat):Rat):=by
 have:2 ^ (2*k)=2 ^ k*2 ^ k:=by rw [←Nat.pow_add,show 2*k=k+k by omega]
 rw [this]; exact_mod_cast rfl
theorem LD {x:Rat} (h:0≤x):((Bn x:Nat):Rat)≤x:=by
 unfold Bn
 have h1:x.num=(x.num.natAbs:Int):=by have:=Rat.num_nonneg.2 h; omega
 have h2:=Nat.div_mul_le_self x.num.natAbs x.den
 have hd:(0:Rat)<((x.den:Nat):Rat):=by exact_mod_cast x.den_pos
 have h3:((x.num.natAbs / x.den:Nat):Rat)*((x.den:Nat):Rat)≤((x.num.natAbs:Nat):Rat):=by exact_mod_cast h2
 have h4:x*((x.den:Nat):Rat)=((x.num.natAbs:Nat):Rat):=by
  conv=>lhs; lhs; rw [oQ x]
  have e:(x.num:Rat)=((x.num.natAbs:Nat):Rat):=by
   conv=>lhs; rw [h1]
   rw [Rat.intCast_natCast]
  rw [e]
  grind
 generalize ((x.num.natAbs / x.den:Nat):Rat)=f at *
 generalize ((x.den:Nat):Rat)=d at *
 generalize ((x.num.natAbs:Nat):Rat)=n at *
 rcases Classical.em (f≤x) with h|h
 ·exact h
 ·have:=Rat.mul_pos (show 0<f-x by grind) hd
  grind
theorem DQ {q:Rat} (hq:0≤q) (k:Nat):cV q k*cV q k≤q:=by
 have hp:=Az k
 have h4:(0:Rat)≤((2 ^ (2*k):Nat):Rat):=by exact_mod_cast Nat.zero_le _
 have hf:=LD (Rat.mul_nonneg hq h4)
 obtain ⟨h1,_⟩:=gh (Bn (q*((2 ^ (2*k):Nat):Rat)))
 unfold cV pX
 generalize Bn (q*((2 ^ (2*k):Nat):Rat))=F at *
 have h5:((j_ F:Nat):Rat)*((j_ F:Nat):Rat)≤((F:Nat):Rat):=by exact_mod_cast h1
 rw [So] at hf
 generalize ((j_ F:Nat):Rat)=n at *
 generalize ((2 ^ k:Nat):Rat)=P at *
 have h6:n*n≤q*(P*P):=by grind
 have h7:n / P*P=n:=by grind
 generalize n / P=x at *
 have h8:x*x*(P*P)=n*n:=by rw [←h7]; grind
 clear h1 h5 hf h7 h4
 rcases Classical.em (x*x≤q) with h|h
 ·exact h
 ·have:=Rat.mul_pos (show 0<x*x-q by grind) (Rat.mul_pos hp hp)
  grind
structure Off (v:PQ) (h tol r:Rat):Prop where
 pos:0<r
 le:r*r*v.dot v≤h*h
 far:h-tol≤0∨(h-tol)*(h-tol)≤r*r*v.dot v
theorem eW (v:PQ) (r:Rat):(v.rot.scale r).dot (v.rot.scale r)=r*r*v.dot v:=by
 unfold PQ.rot PQ.scale PQ.dot; simp only; grind
theorem tx {v:PQ} (hv:v≠⟨0,0⟩) (h:Rat) (k:Nat):cV (h*h / v.dot v) k*cV (h*h / v.dot v) k*v.dot v≤h*h:=by
 have hp:=mq hv
 have h0:0≤h*h / v.dot v:=by
  rw [Rat.div_def]; exact Rat.mul_nonneg (cQ h) (Rat.le_of_lt (Rat.inv_pos.2 hp))
 have h1:=DQ h0 k
 have h2:h*h / v.dot v*v.dot v=h*h:=by grind
 generalize cV (h*h / v.dot v) k=r at *
 generalize h*h / v.dot v=q at *
 have:=Rat.mul_nonneg (show 0≤q-r*r by grind) (show 0≤v.dot v by grind)
 grind
theorem JZ {v:PQ} {h:Rat} {k:Nat} (hn:0<(cj v h k).dot (cj v h k)):0<cV (h*h / v.dot v) k:=by
 unfold cj at hn
 rw [eW] at hn
 have:=DP (h*h / v.dot v) k
 rcases Classical.em (cV (h*h / v.dot v) k=0) with e|e
 ·rw [e] at hn; grind
 ·grind
theorem kT {v:PQ} {h tol:Rat} {n:PQ} {k:Nat} (hv:v≠⟨0,0⟩) (hf:dt v h tol=some (n,k)):∃r,n=v.rot.scale r∧Off v h tol r:=by
 obtain ⟨rfl,h1,_,_⟩:=pS _ _ hf
 refine ⟨_,rfl,JZ h1.1,tx hv h k,?_⟩
 have:=h1.2
 unfold cj at this
 rw [eW] at this
 exact this
theorem mo (p:PQ):0≤p.dot p:=by
 have h1:=cQ p.x; have h2:=cQ p.y
 unfold PQ.dot; grind
theorem IK (x:Rat):sz x.abs≤sz x:=by
 unfold Rat.abs
 split
 ·exact Nat.le_refl _
 ·rw [sz_neg]; exact Nat.le_refl _
theorem oM (v:PR) (h tol:RQ) (hv:v.Lm) (hh:h.Lm) (ht:tol.Lm):∃b:Bool,ag Tryz.prog 173 [v.av,h.av,tol.av] (.bool b)∧(b=true→(v.x.sml 1∧v.y.sml 1)∧h.sml 1∧tol.sml 1):=by
 have s1:=i8 v 1
 have s2:=i7 h 1
 have s3:=i7 tol 1
 change ag _ _ _ (.bool (decide (h.sml 1))) at s2
 change ag _ _ _ (.bool (decide (tol.sml 1))) at s3
 rw [show ((1:Nat):Int)=1 from rfl] at s1 s2 s3
 have c1:v.cs.length=6:=rfl
 have c4:=v.ro_cs
 have c2:v.cs.take 6=v.cs:=rfl
 have c3:v.cs.drop 6=[]:=rfl
 obtain ⟨ch,hch,d1,d2,d3,d4⟩:∃ch,h.av = .agg ch∧ch.length=3∧ch.take 3=ch∧ch.drop 3=[]∧roL ch:=⟨_,rfl,rfl,rfl,rfl,gy h⟩
 obtain ⟨ct,hct,t1,t2,t3,t4⟩:∃ct,tol.av = .agg ct∧ct.length=3∧ct.take 3=ct∧ct.drop 3=[]∧roL ct:=⟨_,rfl,rfl,rfl,rfl,gy tol⟩
 have f0:=fun (a:v.x.sml 1∧v.y.sml 1)=>sJ v ⟨(bL a.1 hv.1).mono,(bL a.2 hv.2).mono⟩
 have f1:=fun (a:h.sml 1)=>finr h (bL a hh).mono
 have f2:=fun (a:tol.sml 1)=>finr tol (bL a ht).mono
 simp only [PR.av_cs,hch,hct] at *
 by_cases a1:v.x.sml 1∧v.y.sml 1
 ·by_cases a2:h.sml 1
  ·by_cases a3:tol.sml 1
   ·have zv:v.val.sz≤1:=by
     have:=(bL a1.1 hv.1).sz; have:=(bL a1.2 hv.2).sz
     unfold PQ.sz PR.val; simp only; omega
    have zh:=(bL a2 hh).sz
    have zt:=(bL a3 ht).sz
    have g0:=f0 a1
    have g1:=f1 a2
    have g2:=f2 a3
    have k1:=bT v.val v.val (by omega) (by omega)
    have k2:=aE (v.val.dot v.val)
    have k3:=aE h.val
    have k4:=aE tol.val
    have k5:=cG 1 1048576 (by omega) (by omega) (by omega)
    have k6:=cG 1048576 1 (by omega) (by omega) (by omega)
    have z5:=gD (p:=1) (q:=1048576) (by omega) (by omega) (by omega)
    have z6:=gD (p:=1048576) (q:=1) (by omega) (by omega) (by omega)
    generalize ((1:Int):Rat) / ((1048576:Int):Rat)=lo at *
    generalize ((1048576:Int):Rat) / ((1:Int):Rat)=hi at *
    have k7:=ve v.val.x
    have k8:=ve v.val.y
    have zx:sz v.val.x.abs≤1:=Nat.le_trans (IK _) (Nat.le_trans v.val.sz_x zv)
    have zy:sz v.val.y.abs≤1:=Nat.le_trans (IK _) (Nat.le_trans v.val.sz_y zv)
    have k9:=EX v.val.x.abs v.val.y.abs (by omega) (by omega)
    have zm:sz (if v.val.x.abs<v.val.y.abs then v.val.y.abs else v.val.x.abs)≤1:=by split<;>omega
    generalize (if v.val.x.abs<v.val.y.abs then v.val.y.abs else v.val.x.abs)=far at *
    have m1:=bC tol.val lo (by omega) (by omega)
    have m2:=bC h.val hi (by omega) (by omega)
    have m3:=bC h.val lo (by omega) (by omega)
    have m4:=bC far hi (by omega) (by omega)
    have m5:=bC far lo (by omega) (by omega)
    generalize bJ tol.val lo=b1 at *
    generalize bJ h.val hi=b2 at *
    generalize bJ h.val lo=b3 at *
    generalize bJ far hi=b4 at *
    generalize bJ far lo=b5 at *
    generalize aM (v.val.dot v.val)=e1 at *
    generalize aM h.val=e2 at *
    generalize aM tol.val=e3 at *
    refine ⟨decide (e1=0) || decide (e2≤0) || decide (e3≤0) || (decide (0≤b1) && decide (b2≤0) && decide (0≤b3) && decide (b4≤0) && decide (0≤b5)),?_,fun _=>⟨a1,a2,a3⟩⟩
    generalize v.val.dot v.val=vv at *
    simp only [aP,bc] at *
    have eP:eC v.val=fC v.val.x++fC v.val.y:=rfl
    refine Pg Tryz.func173 rfl [.tmp 6] rfl (by simp -implicitDefEqProofs [go_sem]) ?_
    simp -implicitDefEqProofs [go_sem,c1,c2,c3,d1,d2,d3,t1,t2,t3]
    refine ah _ s1 (by simp [go_sem,c4]) ?_
    simp -implicitDefEqProofs [go_sem,a1,c1,c2,c3,d1,d2,d3,t1,t2,t3]
    refine ah _ s2 (by simp [go_sem,d4]) ?_
    simp -implicitDefEqProofs [go_sem,a2,c1,c2,c3,d1,d2,d3,t1,t2,t3]
    refine ah _ s3 (by simp [go_sem,t4]) ?_
    simp -implicitDefEqProofs [go_sem,a3,c1,c2,c3,d1,d2,d3,t1,t2,t3]
    refine ao _ g0 (by simp [go_sem,c4]) ?_
    simp -implicitDefEqProofs [go_sem,c1,c2,c3,d1,d2,d3,t1,t2,t3]
    refine ao _ g1 (by simp [go_sem,d4]) ?_
    simp -implicitDefEqProofs [go_sem,c1,c2,c3,d1,d2,d3,t1,t2,t3]
    refine ao _ g2 (by simp [go_sem,t4]) ?_
    simp -implicitDefEqProofs [go_sem,c1,c2,c3,d1,d2,d3,t1,t2,t3]
    refine ac k1 ?_
    simp -implicitDefEqProofs [go_sem]
    refine ac k2 ?_
    by_cases q1:e1=0
    ·simp -implicitDefEqProofs [go_sem,q1]
    ·simp -implicitDefEqProofs [go_sem,q1]
     refine ac k3 ?_
     by_cases q2:e2≤0
     ·simp -implicitDefEqProofs [go_sem,q2]
     ·simp -implicitDefEqProofs [go_sem,q2]
      refine ac k4 ?_
      by_cases q3:e3≤0
      ·simp -implicitDefEqProofs [go_sem,q3]
      ·simp -implicitDefEqProofs [go_sem,q3]
       refine ac k5 ?_
       simp -implicitDefEqProofs [go_sem]
       refine ac k6 ?_
       simp -implicitDefEqProofs [go_sem,eP]
       refine aa k7 ?_
       simp -implicitDefEqProofs [go_sem,eP]
       refine aa k8 ?_
       simp -implicitDefEqProofs [go_sem]
       refine aa k9 ?_
       simp -implicitDefEqProofs [go_sem]
       refine ac m1 ?_
       by_cases w1:0≤b1
       ·simp -implicitDefEqProofs [go_sem,w1]
        refine ac m2 ?_
        by_cases w2:b2≤0
        ·simp -implicitDefEqProofs [go_sem,w2]
         refine ac m3 ?_
         by_cases w3:0≤b3
         ·simp -implicitDefEqProofs [go_sem,w3]
          refine ac m4 ?_
          by_cases w4:b4≤0
          ·simp -implicitDefEqProofs [go_sem,w4]
           refine ac m5 ?_
           simp -implicitDefEqProofs [go_sem]
          ·simp -implicitDefEqProofs [go_sem,w4]
         ·simp -implicitDefEqProofs [go_sem,w3]
        ·simp -implicitDefEqProofs [go_sem,w2]
       ·simp -implicitDefEqProofs [go_sem,w1]
   ·refine ⟨false,?_,fun h=>by cases h⟩
    refine Pg Tryz.func173 rfl [.tmp 6] rfl (by simp -implicitDefEqProofs [go_sem]) ?_
    simp -implicitDefEqProofs [go_sem,c1,c2,c3,d1,d2,d3,t1,t2,t3]
    refine ah _ s1 (by simp [go_sem,c4]) ?_
    simp -implicitDefEqProofs [go_sem,a1,c1,c2,c3,d1,d2,d3,t1,t2,t3]
    refine ah _ s2 (by simp [go_sem,d4]) ?_
    simp -implicitDefEqProofs [go_sem,a2,c1,c2,c3,d1,d2,d3,t1,t2,t3]
    refine ah _ s3 (by simp [go_sem,t4]) ?_
    simp -implicitDefEqProofs [go_sem,a3]
  ·refine ⟨false,?_,fun h=>by cases h⟩
   refine Pg Tryz.func173 rfl [.tmp 6] rfl (by simp -implicitDefEqProofs [go_sem]) ?_
   simp -implicitDefEqProofs [go_sem,c1,c2,c3,d1,d2,d3,t1,t2,t3]
   refine ah _ s1 (by simp [go_sem,c4]) ?_
   simp -implicitDefEqProofs [go_sem,a1,c1,c2,c3,d1,d2,d3,t1,t2,t3]
   refine ah _ s2 (by simp [go_sem,d4]) ?_
   simp -implicitDefEqProofs [go_sem,a2,c1,c2,c3,d1,d2,d3,t1,t2,t3]
 ·refine ⟨false,?_,fun h=>by cases h⟩
  refine Pg Tryz.func173 rfl [.tmp 6] rfl (by simp -implicitDefEqProofs [go_sem]) ?_
  simp -implicitDefEqProofs [go_sem,c1,c2,c3,d1,d2,d3,t1,t2,t3]
  refine ah _ s1 (by simp [go_sem,c4]) ?_
  simp -implicitDefEqProofs [go_sem,a1]
theorem qD (x:Rat):(qc x).Lm:=⟨ay (by omega) _,ay (by omega) _⟩
theorem xG (c:CR) (s:SR) (hc:c.Lm) (hs:s.Lm):∃b:Bool,ag Tryz.prog 102 [c.av,s.av] (.bool b)∧(b=true→c.Sml∧s.Sml):=by
 have s1:=i8 c.p 1
 have s2:=i7 s.miter 1
 have s3:=i7 s.width 1
 have s4:=i7 s.tol 1
 change ag _ _ _ (.bool (decide (s.miter.sml 1))) at s2
 change ag _ _ _ (.bool (decide (s.width.sml 1))) at s3
 change ag _ _ _ (.bool (decide (s.tol.sml 1))) at s4
 rw [show ((1:Nat):Int)=1 from rfl] at s1 s2 s3 s4
 have f1:=fun (a:s.width.sml 1)=>finr s.width (bL a hs.width).mono
 have f2:=cG 1 2 (by omega) (by omega) (by omega)
 rw [←dc] at f2
 have zh:=fv
 obtain ⟨b1,l1,l1'⟩:=oM c.u (qc s.h) s.tol hc.u (qD _) hs.tol
 obtain ⟨b2,l2,l2'⟩:=oM c.v (qc s.h) s.tol hc.v (qD _) hs.tol
 have l3:=yR c.p (qc s.h) s.tol (qD _) hs.tol
 change ag _ _ [_,rA s.h,_] _ at l1 l2 l3
 generalize decide (nq c.p (qc s.h) s.tol)=b3 at *
 by_cases a1:c.p.x.sml 1∧c.p.y.sml 1
 ·by_cases a2:s.miter.sml 1
  ·by_cases a3:s.width.sml 1
   ·by_cases a4:s.tol.sml 1
    ·have g1:=f1 a3
     have zw:=(bL a3 hs.width).sz
     have g2:=aN s.width.val bB (by omega) (by omega)
     have sm:=aJ s.width.val bB
     change ag _ _ _ (fA s.h) at g2
     change sz s.h≤_ at sm
     have g3:=pU s.h (by omega)
     refine ⟨b1 && b2 && b3,?_,fun hb=>?_⟩
     ·simp only [bc,bA] at *
      unfold PR.av RQ.av at *
      refine Pg Tryz.func102 rfl [.tmp 4] rfl (by simp -implicitDefEqProofs [go_sem]) ?_
      unfold CR.av CR.cs SR.av SR.cs PR.cs
      simp -implicitDefEqProofs [go_sem]
      refine ac s1 ?_
      simp -implicitDefEqProofs [go_sem,a1]
      refine ac s2 ?_
      simp -implicitDefEqProofs [go_sem,a2]
      refine ac s3 ?_
      simp -implicitDefEqProofs [go_sem,a3]
      refine ac s4 ?_
      simp -implicitDefEqProofs [go_sem,a4]
      refine ac g1 ?_
      simp -implicitDefEqProofs [go_sem]
      refine ac f2 ?_
      simp -implicitDefEqProofs [go_sem]
      refine ac g2 ?_
      simp -implicitDefEqProofs [go_sem]
      refine ac g3 ?_
      simp -implicitDefEqProofs [go_sem]
      refine ac l1 ?_
      cases b1
      ·simp -implicitDefEqProofs [go_sem]
      ·simp -implicitDefEqProofs [go_sem]
       refine ac l2 ?_
       cases b2
       ·simp -implicitDefEqProofs [go_sem]
       ·simp -implicitDefEqProofs [go_sem]
        refine ac l3 ?_
        simp -implicitDefEqProofs [go_sem]
     ·simp only [Bool.and_eq_true] at hb
      obtain ⟨⟨q1,q2⟩,q3⟩:=hb
      obtain ⟨⟨r1,r2⟩,r3,r4⟩:=l1' q1
      obtain ⟨⟨r5,r6⟩,_,_⟩:=l2' q2
      have hz:=(bL r3 (qD _)).sz
      rw [br] at hz
      exact ⟨⟨⟨bL a1.1 hc.p.1,bL a1.2 hc.p.2⟩,⟨bL r1 hc.u.1,bL r2 hc.u.2⟩,⟨bL r5 hc.v.1,bL r6 hc.v.2⟩⟩,⟨bL a3 hs.width,bL a2 hs.miter,bL a4 hs.tol,hz⟩⟩
    ·refine ⟨false,?_,fun h=>by cases h⟩
     unfold PR.av RQ.av at *
     refine Pg Tryz.func102 rfl [.tmp 4] rfl (by simp -implicitDefEqProofs [go_sem]) ?_
     unfold CR.av CR.cs SR.av SR.cs PR.cs
     simp -implicitDefEqProofs [go_sem]
     refine ac s1 ?_
     simp -implicitDefEqProofs [go_sem,a1]
     refine ac s2 ?_
     simp -implicitDefEqProofs [go_sem,a2]
     refine ac s3 ?_
     simp -implicitDefEqProofs [go_sem,a3]
     refine ac s4 ?_
     simp -implicitDefEqProofs [go_sem,a4]
   ·refine ⟨false,?_,fun h=>by cases h⟩
    unfold PR.av RQ.av at *
    refine Pg Tryz.func102 rfl [.tmp 4] rfl (by simp -implicitDefEqProofs [go_sem]) ?_
    unfold CR.av CR.cs SR.av SR.cs PR.cs
    simp -implicitDefEqProofs [go_sem]
    refine ac s1 ?_
    simp -implicitDefEqProofs [go_sem,a1]
    refine ac s2 ?_
    simp -implicitDefEqProofs [go_sem,a2]
    refine ac s3 ?_
    simp -implicitDefEqProofs [go_sem,a3]
  ·refine ⟨false,?_,fun h=>by cases h⟩
   unfold PR.av RQ.av at *
   refine Pg Tryz.func102 rfl [.tmp 4] rfl (by simp -implicitDefEqProofs [go_sem]) ?_
   unfold CR.av CR.cs SR.av SR.cs PR.cs
   simp -implicitDefEqProofs [go_sem]
   refine ac s1 ?_
   simp -implicitDefEqProofs [go_sem,a1]
   refine ac s2 ?_
   simp -implicitDefEqProofs [go_sem,a2]
 ·refine ⟨false,?_,fun h=>by cases h⟩
  unfold PR.av RQ.av at *
  refine Pg Tryz.func102 rfl [.tmp 4] rfl (by simp -implicitDefEqProofs [go_sem]) ?_
  unfold CR.av CR.cs SR.av SR.cs PR.cs
  simp -implicitDefEqProofs [go_sem]
  refine ac s1 ?_
  simp -implicitDefEqProofs [go_sem,a1]
theorem qC {p u v:PQ} {s:SR} {l:List PQ} (h:dl p u v s=(l,0)) (h2:s.join≠2) (hl:l≠[]):u≠⟨0,0⟩∧v≠⟨0,0⟩∧uq s∧u.cross v≠0∧∃o,qb u v s.miter.val s.h s.tol.val s.join (decide (u.cross v<0))=some o∧l=p::(if u.cross v<0 then o.reverse else o).map p.add:=by
 unfold dl at h
 split at h
 ·cases h
 ·rename_i h1
  split at h
  ·cases h
  ·rename_i h3
   try rw [if_neg h2] at h
   split at h
   ·injection h with h; exact absurd h.symm hl
   ·rename_i h4
    split at h
    ·cases h
    ·rename_i o ho
     injection h with h
     exact ⟨fun e=>h1 (.inl e),fun e=>h1 (.inr e),Classical.not_not.1 h3,h4,o,ho,h.symm⟩
theorem Og (p f l:PQ):er [p,p.add f,p.add l]=f.cross l*bB:=by
 unfold er
 simp [aS,PQ.cross,PQ.add]
 rw [dc]; grind
theorem KF (p f l:PQ) (r:Rat):er [p,p.add f,p.add ((f.add l).scale r),p.add l]=r*f.cross l:=by
 unfold er
 simp [aS,PQ.cross,PQ.add,PQ.scale]
 rw [dc]; grind
theorem KB (p:PQ):p.add ⟨0,0⟩=p:=PQ.ext (by unfold PQ.add; simp only; grind) (by unfold PQ.add; simp only; grind)
theorem dZ {p a b:PQ} (h:a≠b):p.add a≠p.add b:=fun e=>h (wH e)
theorem ot {a b:PQ} (h:a.cross b≠0):a≠⟨0,0⟩∧b≠⟨0,0⟩∧a≠b :=
 ⟨fun e=>h (by rw [e]; unfold PQ.cross; grind),fun e=>h (by rw [e]; unfold PQ.cross; grind),fun e=>h (by rw [e]; unfold PQ.cross; grind)⟩
theorem D3 (a b c:PQ):(b.sub a).cross (c.sub a)=a.cross b+b.cross c+c.cross a:=by
 unfold PQ.cross PQ.sub; simp only; grind
theorem fU (a:PQ):(⟨0,0⟩:PQ).cross a=0:=by unfold PQ.cross; simp only; grind
theorem fV (a:PQ):a.cross ⟨0,0⟩=0:=by unfold PQ.cross; simp only; grind
theorem OU (a:PQ):a.cross a=0:=by unfold PQ.cross; grind
theorem QC (a b:PQ):b.cross a = -(a.cross b):=by unfold PQ.cross; grind
theorem qs (a b n:PQ):bh a b n=[a.sub n,(a.sub n).add (b.sub a),(a.sub n).add (((b.sub a).add (n.scale 2)).scale 1),(a.sub n).add (n.scale 2)]:=by
 have e1:(a.sub n).add (b.sub a)=b.sub n:=PQ.ext (by unfold PQ.add PQ.sub; simp only; grind) (by unfold PQ.add PQ.sub; simp only; grind)
 have e2:(a.sub n).add (((b.sub a).add (n.scale 2)).scale 1)=b.add n:=PQ.ext (by unfold PQ.add PQ.sub PQ.scale; simp only; grind) (by unfold PQ.add PQ.sub PQ.scale; simp only; grind)
 have e3:(a.sub n).add (n.scale 2)=a.add n:=PQ.ext (by unfold PQ.add PQ.sub PQ.scale; simp only; grind) (by unfold PQ.add PQ.sub PQ.scale; simp only; grind)
 rw [e1,e2,e3]; rfl
structure Upr (d n:PQ) (h tol:Rat):Prop where
 dot:d.dot n=0
 cross:0<d.cross n
 le:n.dot n≤h*h
 far:h-tol≤0∨(h-tol)*(h-tol)≤n.dot n
theorem J1 {d:PQ} {h tol r:Rat} (hd:d≠⟨0,0⟩) (o:Off d h tol r):Upr d (d.rot.scale r) h tol:=by
 have e1:d.dot (d.rot.scale r)=0:=by unfold PQ.dot PQ.rot PQ.scale; simp only; grind
 have e2:d.cross (d.rot.scale r)=r*d.dot d:=by unfold PQ.cross PQ.dot PQ.rot PQ.scale; simp only; grind
 exact ⟨e1,by rw [e2]; exact Rat.mul_pos o.pos (mq hd),by rw [eW]; exact o.le,by rw [eW]; exact o.far⟩
theorem kM {a b:PQ} {s:SR} {l:List PQ} {e:Int} (h:fk a b s=(l,e)) (ha:a.sz≤1) (hb:b.sz≤1) (hs:s.Sml):(l=[]∧e≠0)∨∃n,l=bh a b n∧e=0∧n.sz≤7261∧Upr (b.sub a) n s.h s.tol.val:=by
 have hh:=hs.h
 unfold fk at h
 split at h
 ·injection h with h1 h2; exact .inl ⟨h1.symm,by omega⟩
 split at h
 ·injection h with h1 h2; exact .inl ⟨h1.symm,by omega⟩
 ·rename_i h1 h2
  cases hf:dt (b.sub a) s.h s.tol.val with
  | none=>rw [hf] at h; injection h with h1 h2; exact .inl ⟨h1.symm,by omega⟩
  | some x =>
   obtain ⟨n,k⟩:=x
   rw [hf] at h
   simp only at h
   injection h with h3 h4
   have hd:b.sub a≠⟨0,0⟩:=fun e=>h2 (sub_zero.1 e)
   obtain ⟨r,rfl,o⟩:=kT hd hf
   have z:=PQ.sz_sub b a
   exact .inr ⟨_,h3.symm,h4.symm,fY hf (by omega) (by omega),J1 hd o⟩
structure Sqr (d n e:PQ):Prop where
 eq:n.dot n=e.dot e
 ne:n.dot e=0
 along:0<e.dot d
 par:d.cross e=0
 turn:0<e.cross n
theorem J0 {d:PQ} {r:Rat} (hd:d≠⟨0,0⟩) (hr:0<r) {n:PQ} (hn:n=d.rot.scale r):Sqr d n ⟨n.y,-n.x⟩:=by
 have hp:=mq hd
 have e1:(⟨n.y,-n.x⟩:PQ)=d.scale r:=by rw [hn]; exact PQ.ext (by unfold PQ.rot PQ.scale; simp only) (by unfold PQ.rot PQ.scale; simp only; grind)
 rw [e1,hn]
 have e2:(d.scale r).dot d=r*d.dot d:=by unfold PQ.dot PQ.scale; simp only; grind
 have e3:(d.scale r).cross (d.rot.scale r)=r*r*d.dot d:=by unfold PQ.dot PQ.scale PQ.cross PQ.rot; simp only; grind
 exact ⟨by unfold PQ.dot PQ.rot PQ.scale; simp only; grind,by unfold PQ.dot PQ.rot PQ.scale; simp only; grind,by rw [e2]; exact Rat.mul_pos hr hp,by unfold PQ.cross PQ.scale; simp only; grind,by rw [e3]; exact Rat.mul_pos (Rat.mul_pos hr hr) hp⟩
theorem vc {p u:PQ} {s:SR} {l:List PQ} {e:Int} (h:gX p u s=(l,e)) (hp:p.sz≤1) (hu:u.sz≤3) (hs:s.Sml):(l=[]∧e≠0)∨e=0∧jQ s∧u≠⟨0,0⟩∧((s.cap=0∧l=[])∨(s.cap=2∧mV p s.h s.tol.val=(l,0))∨s.cap=1∧∃n,l=bh p (p.add ⟨n.y,-n.x⟩) n∧n.sz≤7261∧Sqr u n ⟨n.y,-n.x⟩):=by
 have hh:=hs.h
 unfold gX at h
 split at h
 ·injection h with h1 h2; exact .inl ⟨h1.symm,by omega⟩
 rename_i hm
 have hm:=Classical.not_not.1 hm
 split at h
 ·injection h with h1 h2; exact .inl ⟨h1.symm,by omega⟩
 rename_i hu0
 split at h
 ·rename_i hc; injection h with h1 h2; exact .inr ⟨h2.symm,hm,hu0,.inl ⟨hc,h1.symm⟩⟩
 split at h
 ·rename_i hc
  unfold I6 at h
  cases hf:dt u s.h s.tol.val with
  | none=>rw [hf] at h; injection h with h1 h2; exact .inl ⟨h1.symm,by omega⟩
  | some x =>
   obtain ⟨n,k⟩:=x
   rw [hf] at h
   simp only at h
   injection h with h3 h4
   obtain ⟨r,hr,o⟩:=kT hu0 hf
   exact .inr ⟨h4.symm,hm,hu0,.inr (.inr ⟨hc,n,h3.symm,fY hf (by omega) (by omega),J0 hu0 o.pos hr⟩)⟩
 ·rename_i hc0 hc1
  have hc2:s.cap=2:=by have:=hm.2.2; omega
  rcases ig p s.h s.tol.val with ⟨k1,k2⟩|⟨j,_,_,_,_,k⟩
  ·rw [h] at k1 k2; exact .inl ⟨k1,k2⟩
  ·rw [k] at h
   injection h with h1 h2
   exact .inr ⟨h2.symm,hm,hu0,.inr (.inl ⟨hc2,by rw [k,h1]⟩)⟩
structure Geo (p u v:PQ) (h tol:Rat) (l:List PQ) (left:Bool) (ru rv:Rat) (a b:PQ):Prop where
 hl:left=decide (u.cross v<0)
 u0:u≠⟨0,0⟩
 v0:v≠⟨0,0⟩
 x0:u.cross v≠0
 pu:0<ru
 pv:0<rv
 bu:ru*ru*u.dot u≤h*h
 bv:rv*rv*v.dot v≤h*h
 ha:a=au (u.rot.scale ru) left
 hb:b=au (v.rot.scale rv) left
 fa:iq (a.dot (au u.rot left)) (h-tol) ((au u.rot left).dot (au u.rot left))
 fb:iq (b.dot (au v.rot left)) (h-tol) ((au v.rot left).dot (au v.rot left))
 pts:l=p::(if left then [b,a] else [a,b]).map p.add∨∃r k t,bB≤r∧mU (a.add b) (au u.rot left) (au v.rot left) h k=some r∧t=(a.add b).scale r ∧
  iq (t.dot (au u.rot left)) (h-tol) ((au u.rot left).dot (au u.rot left))∧iq (t.dot (au v.rot left)) (h-tol) ((au v.rot left).dot (au v.rot left)) ∧
  l=p::(if left then [b,t,a] else [a,t,b]).map p.add
theorem il (p q:PQ) (l:Bool):(au p l).dot (au q l)=p.dot q:=by
 cases l<;>(unfold au PQ.neg PQ.dot; simp only [Bool.false_eq_true,if_false,if_true]; try grind)
theorem DY {u:PQ} {h tol r:Rat} {left:Bool} (o:Off u h tol r):iq ((au (u.rot.scale r) left).dot (au u.rot left)) (h-tol) ((au u.rot left).dot (au u.rot left)):=by
 have e:(u.rot.scale r).dot u.rot=r*u.dot u:=by unfold PQ.rot PQ.scale PQ.dot; simp only; grind
 have e2:u.rot.dot u.rot=u.dot u:=by unfold PQ.rot PQ.dot; simp only; grind
 rw [il,il,e,e2]
 have hd:=mo u
 have hp:=o.pos
 have hf:=o.far
 unfold iq
 generalize u.dot u=D at *
 split
 ·refine ⟨Rat.mul_nonneg (Rat.le_of_lt hp) hd,?_⟩
  rcases hf with hf|hf
  ·grind
  ·have:=Rat.mul_nonneg (show 0≤r*r*D-(h-tol)*(h-tol) by grind) hd
   grind
 ·exact .inl (Rat.mul_nonneg (Rat.le_of_lt hp) hd)
theorem xP {u:PQ} {h:Rat} {k:Nat} {left:Bool} (e:au (cj u h k) left≠⟨0,0⟩):0<cV (h*h / u.dot u) k:=by
 have h0:=DP (h*h / u.dot u) k
 rcases Classical.em (cV (h*h / u.dot u) k=0) with hz|hz
 ·refine absurd ?_ e
  unfold cj
  rw [hz]
  cases left<;>exact PQ.ext (by simp [au,PQ.neg,PQ.scale]) (by simp [au,PQ.neg,PQ.scale])
 ·grind
theorem FN {p u v:PQ} {s:SR} {l:List PQ} (h:dl p u v s=(l,0)) (h2:s.join≠2) (hl:l≠[]):uq s∧∃left ru rv a b,Geo p u v s.h s.tol.val l left ru rv a b:=by
 obtain ⟨hu,hv,hm,hx,o,ho,rfl⟩:=qC h h2 hl
 refine ⟨hm,?_⟩
 obtain ⟨left,hL⟩:∃b,b=decide (u.cross v<0):=⟨_,rfl⟩
 have hLi:(if u.cross v<0 then o.reverse else o)=if left then o.reverse else o:=by rw [hL]; by_cases hc:u.cross v<0<;>simp [hc]
 rw [hLi]
 rw [←hL] at ho
 unfold qb at ho
 split at ho
 ·obtain ⟨k,_,_,hk⟩:=mR _ _ ho
  obtain ⟨a,b,r,ha,hb,a0,b0,hr,hr2,t1,t2,t3,t4,rfl⟩:=qj hk
  have e1:=xP (ha▸a0)
  have e2:=xP (hb▸b0)
  refine ⟨left,_,_,a,b,hL,hu,hv,hx,e1,e2,tx hu s.h k,tx hv s.h k,ha,hb,t1,t3,.inr ⟨r,k,_,by grind,hr,rfl,t2,t4,?_⟩⟩
  cases left<;>rfl
 ·obtain ⟨a,b,j,k,e1,e2,rfl⟩:=mn ho
  obtain ⟨ru,rfl,o1⟩:=kT hu e1
  obtain ⟨rv,rfl,o2⟩:=kT hv e2
  refine ⟨left,ru,rv,_,_,hL,hu,hv,hx,o1.pos,o2.pos,o1.le,o2.le,rfl,rfl,DY o1,DY o2,.inl ?_⟩
  cases left<;>rfl
theorem AZ (p q:PQ) (l:Bool):(au p l).cross (au q l)=p.cross q:=by
 cases l<;>(unfold au PQ.neg PQ.cross; simp only [Bool.false_eq_true,if_false,if_true]; try grind)
theorem E4 {p u v:PQ} {h tol:Rat} {l:List PQ} {left:Bool} {ru rv:Rat} {a b:PQ} (g:Geo p u v h tol l left ru rv a b):if left then 0<b.cross a else 0<a.cross b:=by
 have e:a.cross b=ru*rv*u.cross v:=by
  rw [g.ha,g.hb,AZ]; unfold PQ.rot PQ.scale PQ.cross; simp only; grind
 have e2:b.cross a=ru*rv * -(u.cross v):=by
  have:b.cross a = -(a.cross b):=by unfold PQ.cross; grind
  rw [this,e]; grind
 have hp:=Rat.mul_pos g.pu g.pv
 have hx:=g.x0
 have hl:=g.hl
 generalize u.cross v=X at *
 by_cases h:X<0
 ·rw [hl,decide_eq_true h,if_pos rfl,e2]; exact Rat.mul_pos hp (by grind)
 ·rw [hl,decide_eq_false h,if_neg (by decide),e]; exact Rat.mul_pos hp (by grind)
theorem Hc {p u v:PQ} {h tol:Rat} {l:List PQ} {left:Bool} {ru rv:Rat} {a b:PQ} (g:Geo p u v h tol l left ru rv a b):∃f e:PQ,0<f.cross e∧(l=[p,p.add f,p.add e]∨∃r,bB≤r∧l=[p,p.add f,p.add ((f.add e).scale r),p.add e]):=by
 have hc:=E4 g
 have hp:=g.pts
 have hab:a.add b=b.add a:=PQ.ext (by unfold PQ.add; simp only; grind) (by unfold PQ.add; simp only; grind)
 cases left
 ·refine ⟨a,b,hc,?_⟩
  rcases hp with hp|⟨r,_,t,hr,_,ht,_,_,hp⟩
  ·exact .inl hp
  ·subst ht; exact .inr ⟨r,hr,hp⟩
 ·refine ⟨b,a,hc,?_⟩
  rcases hp with hp|⟨r,_,t,hr,_,ht,_,_,hp⟩
  ·exact .inl hp
  ·subst ht; rw [hab] at hp; exact .inr ⟨r,hr,hp⟩
open Go.ChangeShapes Go.WideShapes Go.ChangeAt Go.RowKit
section
variable {H:Type} {enc:TypeId×Value→H} {w:World}
def PZ (l:List AV):Prop:=∃n,l=[.int .i64 n]∧(Lit.int .i64 n).wf=true
theorem kC:oe enc Tryz.prog w 89 fun l=>∃s:SR,s.Lm∧l=s.cs :=
 (Ic [(27,3,x8),(27,3,x8),(3,1,PZ),(3,1,PZ),(27,3,x8)] (by kernel_rfl) (by kernel_rfl) (by kernel_rfl) (fun f hf=>by
  simp only [List.mem_cons,List.not_mem_nil,or_false] at hf
  rcases hf with rfl|rfl|rfl|rfl|rfl
  ·exact mL
  ·exact mL
  ·exact rG (k := .i64) (by kernel_rfl)
  ·exact rG (k := .i64) (by kernel_rfl)
  ·exact mL)).mono fun l ⟨a,_,e1,⟨x,hx,h1⟩,b,_,e2,⟨y,hy,h2⟩,c,_,e3,⟨n,h3,_⟩,d,_,e4,⟨m,h4,_⟩,g,_,e5,⟨z,hz,h5⟩,e6⟩=>⟨⟨x,y,n,m,z⟩,⟨hx,hy,hz⟩,by rw [e1,e2,e3,e4,e5,e6,h1,h2,h3,h4,h5]; rfl⟩
end
theorem fp (p a b:PQ):(p.add a).sub (p.add b)=a.sub b:=PQ.ext (by unfold PQ.add PQ.sub; simp only; grind) (by unfold PQ.add PQ.sub; simp only; grind)
theorem bF {p a b c:PQ} (h:0≤a.cross b+b.cross c+c.cross a):0≤((p.add b).sub (p.add a)).cross ((p.add c).sub (p.add a)):=by
 rw [fp,fp,D3]; exact h
theorem ow {p a b c:PQ} (h:0<a.cross b+b.cross c+c.cross a):0<((p.add b).sub (p.add a)).cross ((p.add c).sub (p.add a)):=by
 rw [fp,fp,D3]; exact h
theorem Kp {p f l:PQ} (hX:0<f.cross l):Cvx [p,p.add f,p.add l]:=by
 obtain ⟨h1,h2,n12⟩:=ot (a:=f) (b:=l) (fun e=>by rw [e] at hX; exact absurd hX (by decide))
 have n01:=Ne.symm h1
 have n02:=Ne.symm h2
 have x21:=QC f l
 have x11:=OU f
 have x22:=OU l
 generalize hx:f.cross l=X at *
 rw [show [p,p.add f,p.add l]=[p.add ⟨0,0⟩,p.add f,p.add l] by rw [KB]]
 refine ⟨by simp,fun i k hi hk hne=>?_,fun i k hi hk=>?_,?_,?_⟩
 ·simp only [List.length_cons,List.length_nil] at hi hk
  rcases (show i=0∨i=1∨i=2 by omega) with rfl|rfl|rfl<;>rcases (show k=0∨k=1∨k=2 by omega) with rfl|rfl|rfl
  ·exact absurd rfl hne
  ·exact dZ n01
  ·exact dZ n02
  ·exact dZ (Ne.symm n01)
  ·exact absurd rfl hne
  ·exact dZ n12
  ·exact dZ (Ne.symm n02)
  ·exact dZ (Ne.symm n12)
  ·exact absurd rfl hne
 ·simp only [List.length_cons,List.length_nil] at hi hk
  rcases (show i=0∨i=1∨i=2 by omega) with rfl|rfl|rfl<;>rcases (show k=0∨k=1∨k=2 by omega) with rfl|rfl|rfl
  ·simp only [List.length_cons,List.length_nil,Nat.reduceAdd,Nat.reduceSub,Nat.reduceMod,List.getElem_cons_zero,List.getElem_cons_succ]
   refine bF ?_
   simp only [fU,fV,x21,x11,x22,hx]; grind
  ·simp only [List.length_cons,List.length_nil,Nat.reduceAdd,Nat.reduceSub,Nat.reduceMod,List.getElem_cons_zero,List.getElem_cons_succ]
   refine bF ?_
   simp only [fU,fV,x21,x11,x22,hx]; grind
  ·simp only [List.length_cons,List.length_nil,Nat.reduceAdd,Nat.reduceSub,Nat.reduceMod,List.getElem_cons_zero,List.getElem_cons_succ]
   refine bF ?_
   simp only [fU,fV,x21,x11,x22,hx]; grind
  ·simp only [List.length_cons,List.length_nil,Nat.reduceAdd,Nat.reduceSub,Nat.reduceMod,List.getElem_cons_zero,List.getElem_cons_succ]
   refine bF ?_
   simp only [fU,fV,x21,x11,x22,hx]; grind
  ·simp only [List.length_cons,List.length_nil,Nat.reduceAdd,Nat.reduceSub,Nat.reduceMod,List.getElem_cons_zero,List.getElem_cons_succ]
   refine bF ?_
   simp only [fU,fV,x21,x11,x22,hx]; grind
  ·simp only [List.length_cons,List.length_nil,Nat.reduceAdd,Nat.reduceSub,Nat.reduceMod,List.getElem_cons_zero,List.getElem_cons_succ]
   refine bF ?_
   simp only [fU,fV,x21,x11,x22,hx]; grind
  ·simp only [List.length_cons,List.length_nil,Nat.reduceAdd,Nat.reduceSub,Nat.reduceMod,List.getElem_cons_zero,List.getElem_cons_succ]
   refine bF ?_
   simp only [fU,fV,x21,x11,x22,hx]; grind
  ·simp only [List.length_cons,List.length_nil,Nat.reduceAdd,Nat.reduceSub,Nat.reduceMod,List.getElem_cons_zero,List.getElem_cons_succ]
   refine bF ?_
   simp only [fU,fV,x21,x11,x22,hx]; grind
  ·simp only [List.length_cons,List.length_nil,Nat.reduceAdd,Nat.reduceSub,Nat.reduceMod,List.getElem_cons_zero,List.getElem_cons_succ]
   refine bF ?_
   simp only [fU,fV,x21,x11,x22,hx]; grind
 ·simp only [List.length_cons,List.length_nil,Nat.reduceAdd,Nat.reduceSub,Nat.reduceMod,List.getElem_cons_zero,List.getElem_cons_succ]
  refine ow ?_
  simp only [fU,fV,x21,x11,x22,hx]; grind
 ·simp only [List.length_cons,List.length_nil,Nat.reduceAdd,Nat.reduceSub,Nat.reduceMod,List.getElem_cons_zero,List.getElem_cons_succ]
  refine ow ?_
  simp only [fU,fV,x21,x11,x22,hx]; grind
theorem zY {p f l:PQ} {r:Rat} (hX:0<f.cross l) (hr:bB≤r):Cvx [p,p.add f,p.add ((f.add l).scale r),p.add l]:=by
 have hr2:1≤2*r:=by rw [dc] at hr; grind
 obtain ⟨t,ht⟩:∃t,t=(f.add l).scale r:=⟨_,rfl⟩
 have c1:f.cross t=r*f.cross l:=by rw [ht]; unfold PQ.cross PQ.scale PQ.add; simp only; grind
 have c2:t.cross l=r*f.cross l:=by rw [ht]; unfold PQ.cross PQ.scale PQ.add; simp only; grind
 have hrX:0<r*f.cross l:=Rat.mul_pos (by grind) hX
 have h2X:0≤(2*r-1)*f.cross l:=Rat.mul_nonneg (by grind) (by grind)
 have h2Y:f.cross l≤r*f.cross l+r*f.cross l:=by grind
 rw [←ht]
 clear ht h2X hr2 hr
 have x31:=QC f l
 have x21:=QC f t
 have x32:=QC t l
 have x11:=OU f
 have x22:=OU t
 have x33:=OU l
 generalize r*f.cross l=Y at *
 obtain ⟨h1,h3,n13⟩:=ot (a:=f) (b:=l) (fun e=>by rw [e] at hX; exact absurd hX (by decide))
 obtain ⟨_,h2,n12⟩:=ot (a:=f) (b:=t) (fun e=>by rw [e] at c1; rw [←c1] at hrX; exact absurd hrX (by decide))
 obtain ⟨_,_,n23⟩:=ot (a:=t) (b:=l) (fun e=>by rw [e] at c2; rw [←c2] at hrX; exact absurd hrX (by decide))
 have n01:=Ne.symm h1
 have n02:=Ne.symm h2
 have n03:=Ne.symm h3
 generalize hx:f.cross l=X at *
 rw [show [p,p.add f,p.add t,p.add l]=[p.add ⟨0,0⟩,p.add f,p.add t,p.add l] by rw [KB]]
 refine ⟨by simp,fun i k hi hk hne=>?_,fun i k hi hk=>?_,?_,?_⟩
 ·simp only [List.length_cons,List.length_nil] at hi hk
  rcases (show i=0∨i=1∨i=2∨i=3 by omega) with rfl|rfl|rfl|rfl<;>rcases (show k=0∨k=1∨k=2∨k=3 by omega) with rfl|rfl|rfl|rfl
  ·exact absurd rfl hne
  ·exact dZ n01
  ·exact dZ n02
  ·exact dZ n03
  ·exact dZ (Ne.symm n01)
  ·exact absurd rfl hne
  ·exact dZ n12
  ·exact dZ n13
  ·exact dZ (Ne.symm n02)
  ·exact dZ (Ne.symm n12)
  ·exact absurd rfl hne
  ·exact dZ n23
  ·exact dZ (Ne.symm n03)
  ·exact dZ (Ne.symm n13)
  ·exact dZ (Ne.symm n23)
  ·exact absurd rfl hne
 ·simp only [List.length_cons,List.length_nil] at hi hk
  rcases (show i=0∨i=1∨i=2∨i=3 by omega) with rfl|rfl|rfl|rfl<;>rcases (show k=0∨k=1∨k=2∨k=3 by omega) with rfl|rfl|rfl|rfl
  ·simp only [List.length_cons,List.length_nil,Nat.reduceAdd,Nat.reduceSub,Nat.reduceMod,List.getElem_cons_zero,List.getElem_cons_succ]
   refine bF ?_
   simp only [fU,fV,x21,x31,x32,x11,x22,x33,c1,c2,hx]; grind
  ·simp only [List.length_cons,List.length_nil,Nat.reduceAdd,Nat.reduceSub,Nat.reduceMod,List.getElem_cons_zero,List.getElem_cons_succ]
   refine bF ?_
   simp only [fU,fV,x21,x31,x32,x11,x22,x33,c1,c2,hx]; grind
  ·simp only [List.length_cons,List.length_nil,Nat.reduceAdd,Nat.reduceSub,Nat.reduceMod,List.getElem_cons_zero,List.getElem_cons_succ]
   refine bF ?_
   simp only [fU,fV,x21,x31,x32,x11,x22,x33,c1,c2,hx]; grind
  ·simp only [List.length_cons,List.length_nil,Nat.reduceAdd,Nat.reduceSub,Nat.reduceMod,List.getElem_cons_zero,List.getElem_cons_succ]
   refine bF ?_
   simp only [fU,fV,x21,x31,x32,x11,x22,x33,c1,c2,hx]; grind
  ·simp only [List.length_cons,List.length_nil,Nat.reduceAdd,Nat.reduceSub,Nat.reduceMod,List.getElem_cons_zero,List.getElem_cons_succ]
   refine bF ?_
   simp only [fU,fV,x21,x31,x32,x11,x22,x33,c1,c2,hx]; grind
  ·simp only [List.length_cons,List.length_nil,Nat.reduceAdd,Nat.reduceSub,Nat.reduceMod,List.getElem_cons_zero,List.getElem_cons_succ]
   refine bF ?_
   simp only [fU,fV,x21,x31,x32,x11,x22,x33,c1,c2,hx]; grind
  ·simp only [List.length_cons,List.length_nil,Nat.reduceAdd,Nat.reduceSub,Nat.reduceMod,List.getElem_cons_zero,List.getElem_cons_succ]
   refine bF ?_
   simp only [fU,fV,x21,x31,x32,x11,x22,x33,c1,c2,hx]; grind
  ·simp only [List.length_cons,List.length_nil,Nat.reduceAdd,Nat.reduceSub,Nat.reduceMod,List.getElem_cons_zero,List.getElem_cons_succ]
   refine bF ?_
   simp only [fU,fV,x21,x31,x32,x11,x22,x33,c1,c2,hx]; grind
  ·simp only [List.length_cons,List.length_nil,Nat.reduceAdd,Nat.reduceSub,Nat.reduceMod,List.getElem_cons_zero,List.getElem_cons_succ]
   refine bF ?_
   simp only [fU,fV,x21,x31,x32,x11,x22,x33,c1,c2,hx]; grind
  ·simp only [List.length_cons,List.length_nil,Nat.reduceAdd,Nat.reduceSub,Nat.reduceMod,List.getElem_cons_zero,List.getElem_cons_succ]
   refine bF ?_
   simp only [fU,fV,x21,x31,x32,x11,x22,x33,c1,c2,hx]; grind
  ·simp only [List.length_cons,List.length_nil,Nat.reduceAdd,Nat.reduceSub,Nat.reduceMod,List.getElem_cons_zero,List.getElem_cons_succ]
   refine bF ?_
   simp only [fU,fV,x21,x31,x32,x11,x22,x33,c1,c2,hx]; grind
  ·simp only [List.length_cons,List.length_nil,Nat.reduceAdd,Nat.reduceSub,Nat.reduceMod,List.getElem_cons_zero,List.getElem_cons_succ]
   refine bF ?_
   simp only [fU,fV,x21,x31,x32,x11,x22,x33,c1,c2,hx]; grind
  ·simp only [List.length_cons,List.length_nil,Nat.reduceAdd,Nat.reduceSub,Nat.reduceMod,List.getElem_cons_zero,List.getElem_cons_succ]
   refine bF ?_
   simp only [fU,fV,x21,x31,x32,x11,x22,x33,c1,c2,hx]; grind
  ·simp only [List.length_cons,List.length_nil,Nat.reduceAdd,Nat.reduceSub,Nat.reduceMod,List.getElem_cons_zero,List.getElem_cons_succ]
   refine bF ?_
   simp only [fU,fV,x21,x31,x32,x11,x22,x33,c1,c2,hx]; grind
  ·simp only [List.length_cons,List.length_nil,Nat.reduceAdd,Nat.reduceSub,Nat.reduceMod,List.getElem_cons_zero,List.getElem_cons_succ]
   refine bF ?_
   simp only [fU,fV,x21,x31,x32,x11,x22,x33,c1,c2,hx]; grind
  ·simp only [List.length_cons,List.length_nil,Nat.reduceAdd,Nat.reduceSub,Nat.reduceMod,List.getElem_cons_zero,List.getElem_cons_succ]
   refine bF ?_
   simp only [fU,fV,x21,x31,x32,x11,x22,x33,c1,c2,hx]; grind
 ·simp only [List.length_cons,List.length_nil,Nat.reduceAdd,Nat.reduceSub,Nat.reduceMod,List.getElem_cons_zero,List.getElem_cons_succ]
  refine ow ?_
  simp only [fU,fV,x21,x31,x32,x11,x22,x33,c1,c2,hx]; grind
 ·simp only [List.length_cons,List.length_nil,Nat.reduceAdd,Nat.reduceSub,Nat.reduceMod,List.getElem_cons_zero,List.getElem_cons_succ]
  refine ow ?_
  simp only [fU,fV,x21,x31,x32,x11,x22,x33,c1,c2,hx]; grind
theorem Bx {a b n:PQ} (hX:0<(b.sub a).cross n):Cvx (bh a b n):=by
 have e:(b.sub a).cross (n.scale 2)=2*(b.sub a).cross n:=by unfold PQ.cross PQ.scale; simp only; grind
 rw [qs]
 exact zY (by rw [e]; grind) (by rw [dc]; grind)
theorem Jm {p u v:PQ} {h tol:Rat} {l:List PQ} {left:Bool} {ru rv:Rat} {a b:PQ} (g:Geo p u v h tol l left ru rv a b):Cvx l:=by
 obtain ⟨f,q,hX,hl⟩:=Hc g
 rcases hl with rfl|⟨r,hr,rfl⟩
 ·exact Kp hX
 ·exact zY hX hr
theorem GN {c:PQ} {h:Rat} {m:Nat} (h0:0<h) (hp1:1≤m) (hp:m≤4096) (hcx:Lr m=true):Cvx (dL c h m 4):=by
 have hLl:(dL c h m 4).length=4*m:=da ..
 have gt:∀i (hi:i<4*m),(dL c h m 4)[i]'(by omega)=c.add (dR h m i):=fun i hi=>su hp1 hi
 have nx:∀i (hi:i<(dL c h m 4).length),(dL c h m 4)[(i+1)%(dL c h m 4).length]'(Nat.mod_lt _ (by omega))=c.add (dR h m ((i+1)%(4*m))):=fun i hi=>by
  have e1:(i+1)%(dL c h m 4).length=(i+1)%(4*m):=by rw [hLl]
  have:=gt ((i+1)%(4*m)) (Nat.mod_lt _ (by omega))
  simp only [e1]; exact this
 refine ⟨by omega,fun i k hi hk hne=>?_,fun i k hi hk=>?_,?_,?_⟩
 ·rw [gt i (by omega),gt k (by omega)]
  intro hh
  exact (Dl hcx (by omega:i<4*m) (by omega:k<4*m)).1 hne (FW h0 (wH hh))
 ·rw [gt i (by omega),gt k (by omega),nx i hi,fp,fp,GR,GR,GR,yN]
  have h1:=(Dl hcx (by omega:i<4*m) (by omega:k<4*m)).2
  exact Rat.mul_nonneg (cQ _) h1
 ·rw [gt 0 (by omega),gt 1 (by omega),gt 2 (by omega),fp,fp]
  have:=uW (k:=0) h0 hp1 (by omega)
  rw [Nat.zero_add,Nat.zero_add,Nat.mod_eq_of_lt (by omega:1<4*m),Nat.mod_eq_of_lt (by omega:2<4*m)] at this
  exact this
 ·have e1:(dL c h m 4).length-1=4*m-1:=by omega
  have e2:(dL c h m 4).length-2=4*m-2:=by omega
  have g1:=gt (4*m-1) (by omega)
  have g2:=gt (4*m-2) (by omega)
  simp only [e1,e2]
  rw [g1,g2,gt 0 (by omega),fp,fp]
  have:=uW (k:=4*m-2) h0 hp1 (by omega)
  rw [show 4*m-2+1=4*m-1 by omega,show 4*m-2+2=4*m by omega,Nat.mod_self,Nat.mod_eq_of_lt (by omega:4*m-1<4*m)] at this
  exact this
def lg (l:List PQ):Prop:=0<er l∧(l.length≤16→Cvx l)
theorem lP {a b n:PQ} (hX:0<(b.sub a).cross n):lg (bh a b n):=by
 refine ⟨?_,fun _=>Bx hX⟩
 have e:(b.sub a).cross (n.scale 2)=2*(b.sub a).cross n:=by unfold PQ.cross PQ.scale; simp only; grind
 rw [qs,KF,e]
 grind
theorem Fc {c:PQ} {h:Rat} {j:Nat} (h0:0<h) (hj:2 ^ j≤4096):lg (dL c h (2 ^ j) 4):=by
 have hp1:1≤2 ^ j:=Nat.pow_pos (by omega)
 have hcx:=HK (e:=j)
 have hlen:(dL c h (2 ^ j) 4).length=4*2 ^ j:=da ..
 exact ⟨Es h0 hp1,fun hl=>GN h0 hp1 hj (hcx (by omega))⟩
theorem sV {c:PQ} {h tol:Rat} {l:List PQ} (hr:mV c h tol=(l,0)):lg l:=by
 rcases ig c h tol with ⟨_,k2⟩|⟨j,k1,h0,_,_,k4⟩
 ·rw [hr] at k2; exact absurd rfl k2
 ·rw [k4] at hr
  injection hr with h1 h3
  subst h1
  exact Fc h0 ((Ay (by omega)).2 k1)
theorem Fb {a b:PQ} {s:SR} {l:List PQ} (h:fk a b s=(l,0)) (ha:a.sz≤1) (hb:b.sz≤1) (hs:s.Sml):lg l:=by
 rcases kM h ha hb hs with ⟨_,he⟩|⟨n,rfl,_,_,u⟩
 ·exact absurd rfl he
 ·exact lP u.cross
theorem Ca {p u v:PQ} {s:SR} {l:List PQ} (h:dl p u v s=(l,0)) (hl:l≠[]):lg l:=by
 by_cases h2:s.join=2
 ·unfold dl at h
  split at h
  ·injection h with h0 h1; exact absurd h1 (by decide)
  split at h
  ·injection h with h0 h1; exact absurd h1 (by decide)
  try rw [if_pos h2] at h
  exact sV h
 ·obtain ⟨_,left,ru,rv,a,b,g⟩:=FN h h2 hl
  refine ⟨?_,fun _=>Jm g⟩
  obtain ⟨f,q,hX,hl⟩:=Hc g
  rcases hl with rfl|⟨r,hr,rfl⟩
  ·rw [Og]; exact Rat.mul_pos hX gc
  ·rw [KF]; exact Rat.mul_pos (by have:=gc; grind) hX
theorem zP {p u:PQ} {s:SR} {l:List PQ} (h:gX p u s=(l,0)) (hl:l≠[]) (hp:p.sz≤1) (hu:u.sz≤3) (hs:s.Sml):lg l:=by
 rcases vc h hp hu hs with ⟨hn,_⟩|⟨_,_,_,⟨_,hn⟩|⟨_,hr⟩|⟨_,n,rfl,_,q⟩⟩
 ·exact absurd hn hl
 ·exact absurd hn hl
 ·exact sV hr
 ·exact lP (by rw [I9]; exact q.turn)
theorem HD {p:PQ} {s:SR} {l:List PQ} (h:fW p s=(l,0)) (hl:l≠[]):lg l:=by
 unfold fW at h
 split at h
 ·injection h with h1 h2; exact absurd h2 (by decide)
 rename_i hm
 have hm:=Classical.not_not.1 hm
 split at h
 ·injection h with h1 h2
  subst h1
  have h0:0<s.h:=Rat.mul_pos hm.1 gc
  refine lP ?_
  have e:((p.add ⟨s.h,0⟩).sub (p.sub ⟨s.h,0⟩)).cross ⟨0,s.h⟩=2*(s.h*s.h):=by unfold PQ.add PQ.sub PQ.cross; simp only; grind
  have:=Rat.mul_pos h0 h0
  rw [e]; grind
 split at h
 ·exact sV h
 ·injection h with h1 h2; exact absurd h1.symm hl
theorem lJ:∀(L:List (List PQ×Int)) (m:List (List PQ)),aD L=(m,0)→(∀x∈m,x≠[]∧(x,(0:Int))∈L)∧(∀y∈L,y.2=0∧(y.1≠[]→y.1∈m))∧m.length≤L.length
 | [],m,h=>by
  injection h with h1 _
  subst h1
  exact ⟨by simp,by simp,Nat.le_refl _⟩
 | (l,e)::r,m,h=>by
  unfold aD at h
  split at h
  ·rename_i he; injection h with h1 h2; exact absurd h2 he
  rename_i he
  have he:e=0:=Classical.not_not.1 he
  split at h
  ·rename_i h2; injection h with h1 h3; exact absurd h3 h2
  rename_i h2
  have h2:(aD r).2=0:=Classical.not_not.1 h2
  obtain ⟨q1,q2,q3⟩:=lJ r (aD r).1 (by rw [←h2])
  injection h with h1 _
  subst he
  by_cases hl:l=[]
  ·rw [if_pos hl] at h1
   subst h1
   refine ⟨fun x hx=>⟨(q1 x hx).1,List.mem_cons_of_mem _ (q1 x hx).2⟩,fun y hy=>?_,by simp only [List.length_cons]; omega⟩
   rcases List.mem_cons.1 hy with rfl|hy
   ·exact ⟨rfl,fun h=>absurd hl h⟩
   ·exact q2 y hy
  ·rw [if_neg hl] at h1
   subst h1
   refine ⟨fun x hx=>?_,fun y hy=>?_,by simp only [List.length_cons]; omega⟩
   ·rcases List.mem_cons.1 hx with rfl|hx
    ·exact ⟨hl,List.mem_cons_self⟩
    ·exact ⟨(q1 x hx).1,List.mem_cons_of_mem _ (q1 x hx).2⟩
   ·rcases List.mem_cons.1 hy with rfl|hy
    ·exact ⟨rfl,fun _=>List.mem_cons_self⟩
    ·exact ⟨(q2 y hy).1,fun h=>List.mem_cons_of_mem _ ((q2 y hy).2 h)⟩
theorem Gt {c:List PQ} {closed:Bool} {s:SR} (hc:c≠[]) (hz:∀p∈c,p.sz≤1) (hs:s.Sml):∀x,x≠[]→(x,(0:Int))∈iz c closed s→lg x:=by
 have z:=fun i=>hz _ (d7 hc i)
 intro x hx h
 unfold iz at h
 split at h
 ·rw [List.mem_singleton] at h
  exact HD h.symm hx
 ·rcases List.mem_append.1 h with h|h
  ·obtain ⟨i,_,h⟩:=List.mem_map.1 h
   exact Fb h (z i) (z (i+1)) hs
  rcases List.mem_append.1 h with h|h
  ·obtain ⟨i,_,h⟩:=List.mem_map.1 h
   exact Ca h hx
  ·unfold lF at h
   split at h
   ·cases h
   ·have z1:=PQ.sz_sub (aK c 0) (aK c 1)
    have z2:=PQ.sz_sub (aK c (c.length-1)) (aK c (c.length-2))
    have y0:=z 0
    have y1:=z 1
    have y2:=z (c.length-1)
    have y3:=z (c.length-2)
    simp only [List.mem_cons,List.not_mem_nil,or_false] at h
    rcases h with h|h
    ·exact zP h.symm hx (z 0) (by omega) hs
    ·exact zP h.symm hx (z _) (by omega) hs
theorem zI:∀L:List (List PQ×Int),(aD L).2≠0→(aD L).1=[]
 | [],h=>rfl
 | (l,e)::r,h=>by
  simp only [aD] at h ⊢
  by_cases he:e=0
  ·by_cases h2:(aD r).2=0
   ·simp [he,h2] at h
   ·simp [he,h2]
  ·simp [he]
theorem Ls {R:PQ→PQ→Prop} {c:List PQ} (h:∀i (h:i<c.length),R c[i] (c[(i+1)%c.length]'(Nat.mod_lt _ (by omega)))):yn R c:=by
 cases c with
 | nil=>trivial
 | cons a l =>
  have key:∀(m:List PQ) (x:PQ) (k:Nat),(∀i (h:i<m.length),(a::l)[k+1+i]?=some m[i])→(a::l)[k]?=some x→k+1+m.length=l.length+1→Gn R x m:=by
   intro m
   induction m with
   | nil=>intro x k _ _ _; trivial
   | cons y m ih =>
    intro x k h1 h2 h3
    simp only [List.length_cons] at h3
    have hk:k<(a::l).length:=by simp only [List.length_cons]; omega
    have e1:(a::l)[k]=x:=by rw [List.getElem?_eq_getElem hk] at h2; exact Option.some.inj h2
    have h0:=h1 0 (by simp)
    have hk1:k+1<(a::l).length:=by simp only [List.length_cons]; omega
    have e2:(a::l)[k+1]=y:=by rw [Nat.add_zero,List.getElem?_eq_getElem hk1] at h0; exact Option.some.inj h0
    have hR:=h k hk
    have hm:(k+1)%(a::l).length=k+1:=Nat.mod_eq_of_lt hk1
    simp only [hm,e1,e2] at hR
    exact ⟨hR,ih y (k+1) (fun i hi=>by have:=h1 (i+1) (by simp only [List.length_cons]; omega); rw [show k+1+1+i=k+1+(i+1) by omega]; simpa using this) (by rw [List.getElem?_eq_getElem hk1,e2]) (by omega)⟩
  refine ⟨key l a 0 (fun i hi=>by rw [show 0+1+i=i+1 by omega,List.getElem?_cons_succ,List.getElem?_eq_getElem hi]) rfl (by omega),?_⟩
  have hlast:=h l.length (by simp)
  have hm:(l.length+1)%(a::l).length=0:=by simp only [List.length_cons]; exact Nat.mod_self _
  simp only [hm,List.getElem_cons_zero] at hlast
  have:(a::l)[l.length]'(by simp)=l.getLastD a:=by
   rw [List.getLastD_eq_getLast?,List.getLast?_eq_getElem?]
   by_cases h0:l.length=0
   ·have:=List.length_eq_zero_iff.1 h0; subst this; rfl
   ·rw [List.getElem?_eq_getElem (by omega),Option.getD_some,List.getElem_cons,dif_neg h0]
  rw [this] at hlast
  exact hlast
structure LightS (l:List PR) (s:SR):Prop where
 len:l.length≤8
 pts:∀p∈l,p.In 1
 nigh:yn qI (l.map PR.val)
 sty:l≠[]→s.Sml
theorem iK (l:List PR) (closed:Bool) (s:SR) (hl:l.length≤9223372036854775807) (hp:∀p∈l,p.Lm) (hs:s.Lm) :
 ∃b:Bool,ag Tryz.prog 37 [.agg [fK l,.bool closed],s.av] (.bool b)∧(b=true→LightS l s):=by
 have k1:=jy l 1 hl
 rw [show ((1:Nat):Int)=1 from rfl] at k1
 have rpr:=jS l
 have sro:=s.ro_cs
 have hsav:s.av = .agg s.cs:=rfl
 have slen:s.cs.length=11:=rfl
 have stk:s.cs.take 11=s.cs:=rfl
 have hPl:(l.map PR.av).length=l.length:=by simp
 have hr:=iR l
 by_cases a8:l.length≤8
 rotate_left
 ·refine ⟨false,?_,fun h=>by cases h⟩
  have b8:(8:Int)<l.length:=by omega
  refine Pg Tryz.func37 rfl [.tmp 4] rfl (by simp -implicitDefEqProofs [go_sem]) ?_
  rw [hsav]
  unfold fK
  generalize l.map PR.av=V at *
  generalize s.cs=S at *
  simp -implicitDefEqProofs [go_sem,hr,sro,slen,hPl,b8]
 have b8:¬(8:Int)<l.length:=by omega
 by_cases hsm:∀p∈l,p.x.sml 1∧p.y.sml 1
 rotate_left
 ·refine ⟨false,?_,fun h=>by cases h⟩
  rw [decide_eq_false hsm] at k1
  unfold fK at k1
  refine Pg Tryz.func37 rfl [.tmp 4] rfl (by simp -implicitDefEqProofs [go_sem]) ?_
  rw [hsav]
  unfold fK
  generalize l.map PR.av=V at *
  generalize s.cs=S at *
  simp -implicitDefEqProofs [go_sem,hr,sro,slen,hPl,b8]
  refine ah _ k1 (by simp [go_sem,hr]) ?_
  simp -implicitDefEqProofs [go_sem]
 rw [decide_eq_true hsm] at k1
 have hin:∀p∈l,p.In 1:=fun p h=>⟨bL (hsm p h).1 (hp p h).1,bL (hsm p h).2 (hp p h).2⟩
 have hlt:∀i,0<l.length→(i+1)%l.length<l.length:=fun i h=>Nat.mod_lt _ h
 have hex:∀i (h:i<l.length),∃b:Bool,ag Tryz.prog 102 [(CR.mk l[i] (pc ((l[(i+1)%l.length]'(hlt i (Nat.zero_lt_of_lt h))).val.sub l[i].val)) (pc (wP 1 0))).av,s.av] (.bool b)∧(b=true→s.Sml∧qI l[i].val (l[(i+1)%l.length]'(hlt i (Nat.zero_lt_of_lt h))).val):=fun i h=>by
  obtain ⟨b,h1,h2⟩:=xG ⟨l[i],pc ((l[(i+1)%l.length]'(hlt i (Nat.zero_lt_of_lt h))).val.sub l[i].val),pc (wP 1 0)⟩ s ⟨hp _ (List.getElem_mem h),⟨qD _,qD _⟩,⟨qD _,qD _⟩⟩ hs
  refine ⟨b,h1,fun hb=>?_⟩
  obtain ⟨c1,c2⟩:=h2 hb
  refine ⟨c2,?_⟩
  have:=c1.u.sz
  rw [aO] at this
  exact this
 obtain ⟨lb,hlb⟩:∃lb:Nat→Bool,∀i (h:i<l.length),ag Tryz.prog 102 [(CR.mk l[i] (pc ((l[(i+1)%l.length]'(hlt i (Nat.zero_lt_of_lt h))).val.sub l[i].val)) (pc (wP 1 0))).av,s.av] (.bool (lb i))∧(lb i=true→s.Sml∧qI l[i].val (l[(i+1)%l.length]'(hlt i (Nat.zero_lt_of_lt h))).val) :=
  ⟨fun i=>if h:i<l.length then (hex i h).choose else true,fun i h=>by simp only [dif_pos h]; exact (hex i h).choose_spec⟩
 clear hex
 refine ⟨decide (∀i,i<l.length→lb i=true),?_,fun hb=>?_⟩
 rotate_left
 ·have hb:=of_decide_eq_true hb
  refine ⟨a8,hin,Ls fun i h=>?_,fun hne=>?_⟩
  ·rw [List.length_map] at h
   have:=((hlb i h).2 (hb i h)).2
   simp only [List.getElem_map,List.length_map]
   exact this
  ·have h0:0<l.length:=by have:=mt List.length_eq_zero_iff.1 hne; omega
   exact ((hlb 0 h0).2 (hb 0 h0)).1
 have kin:=fun p (h:p∈l)=>sJ p (hin p h).mono
 have kp:=pp 1 0 (by omega) (by omega)
 have hg:∀i (h:i<l.length),bU (l.map PR.av) (i:Int) = .agg l[i].cs:=fun i h=>Dy h
 unfold fK at k1
 refine Pg Tryz.func37 rfl [.tmp 4] rfl (by simp -implicitDefEqProofs [go_sem]) ?_
 rw [hsav] at hlb ⊢
 unfold fK
 generalize l.map PR.av=V at *
 generalize s.cs=S at *
 simp -implicitDefEqProofs [go_sem,hr,sro,slen,hPl,b8]
 refine ah _ k1 (by simp [go_sem,hr]) ?_
 simp -implicitDefEqProofs [go_sem]
 refine ap 2 (α:={i:Nat // i≤l.length∧∀j,j<i→lb j=true}) (fun i=>[(2,.ptr 0 0 0),(3,.ptr 1 0 0),(5,.int .i64 i.1)]) (fun _=>[(0,.live 2 [.agg [.sl 6 false V,.bool closed]]),(1,.live 11 [.agg S])]) (fun i=>l.length-i.1) ⟨0,Nat.zero_le _,fun j h=>absurd h (by omega)⟩ [] (by simp) (fun _ _ _ _ h=>h) (by simp) (by simp -implicitDefEqProofs [go_sem]) (by simp -implicitDefEqProofs [go_sem,renL_ro (nm []) _ hr,cloL_ro (n:=2) _ hr,renL_ro (nm []) _ sro,cloL_ro (n:=2) _ sro]) fun ⟨i,hi,hj⟩=>?_
 by_cases a:i<l.length
 ·have a1:(i:Int)<l.length:=by omega
  have hm:=hlt i (Nat.zero_lt_of_lt a)
  have g1:=hg i a
  have g2:=hg _ hm
  obtain ⟨q1,q2⟩:=hlb i a
  have e1:=wT i (by omega)
  have e2:Int.tmod ((i:Int)+1) (l.length:Int)=((i+1)%l.length:Nat):=by rw [Int.tmod_eq_emod_of_nonneg (by omega)]; rfl
  have kx:=kin _ (List.getElem_mem a)
  have ky:=kin _ (List.getElem_mem hm)
  have zx:=(hin _ (List.getElem_mem a)).sz
  have zy:=(hin _ (List.getElem_mem hm)).sz
  have l0:¬l.length=0:=by omega
  generalize l[(i+1)%l.length]'hm=y at *
  generalize l[i]'a=x at *
  generalize (i+1)%l.length=j at *
  have ks:=dr y.val x.val (by omega) (by omega)
  have zs:=PQ.sz_sub y.val x.val
  have ko:=eO (y.val.sub x.val) (by omega)
  have ecr:(CR.mk x (pc (y.val.sub x.val)) (pc (wP 1 0))).av = .agg (x.cs++(pC (y.val.sub x.val)++pC (wP 1 0))):=by unfold CR.av CR.cs; rw [List.append_assoc]; rfl
  rw [ecr] at q1
  rw [PR.av_cs] at kx ky
  have u6:x.cs.length=6:=rfl
  have u7:x.cs.take 6=x.cs:=rfl
  have u9:=x.ro_cs
  have v6:y.cs.length=6:=rfl
  have v7:y.cs.take 6=y.cs:=rfl
  have v9:=y.ro_cs
  generalize y.val.sub x.val=d at *
  have xi:True:=trivial
  generalize x.cs=X at *
  generalize y.cs=Y at *
  generalize x.val=xv at *
  generalize y.val=yv at *
  simp only [aQ,aP] at *
  cases hbi:lb i with
  | true =>
   rw [hbi] at q1
   simp -implicitDefEqProofs [go_sem,a1,a,hPl,l0,e1,e2,g1,g2,hm,v6,v7]
   refine ao _ ky (by simp [go_sem,v9]) ?_
   simp -implicitDefEqProofs [go_sem,hPl,a1,g1,u6,u7]
   refine ao _ kx (by simp [go_sem,u9]) ?_
   simp -implicitDefEqProofs [go_sem]
   refine ao _ ks (by simp [go_sem]) ?_
   simp -implicitDefEqProofs [go_sem]
   refine ao _ ko (by simp [go_sem]) ?_
   simp -implicitDefEqProofs [go_sem,hPl,a,g1,u6,u7]
   refine ao _ kp (by simp [go_sem]) ?_
   have x12:List.take 12 X=X:=List.take_of_length_le (by omega)
   have x18:List.drop 18 X=[]:=List.drop_of_length_le (by omega)
   have d12:List.drop 12 (pC d)=[]:=rfl
   simp -implicitDefEqProofs [go_sem,u6,slen,stk,List.take_append,List.drop_append,x12,x18,d12]
   refine ao _ q1 (by simp [go_sem,u9,sro,aF]) ?_
   simp -implicitDefEqProofs [go_sem,e1]
   exact ae ⟨i+1,a,fun j h=>if h':j=i then h'▸hbi else hj j (by omega)⟩ (by simp only; omega) [] (by simp) (fun _ _ _ _ h=>h) (by simp) (by simp -implicitDefEqProofs [go_sem]) (by simp -implicitDefEqProofs [go_sem,renL_ro (nm []) _ hr,cloL_ro (n:=2) _ hr,renL_ro (nm []) _ sro,cloL_ro (n:=2) _ sro])
  | false =>
   rw [hbi] at q1
   have hF:decide (∀i,i<l.length→lb i=true)=false:=decide_eq_false fun h=>by have:=h i a; rw [hbi] at this; cases this
   rw [hF]
   simp -implicitDefEqProofs [go_sem,a1,a,hPl,l0,e1,e2,g1,g2,hm,v6,v7]
   refine ao _ ky (by simp [go_sem,v9]) ?_
   simp -implicitDefEqProofs [go_sem,hPl,a1,g1,u6,u7]
   refine ao _ kx (by simp [go_sem,u9]) ?_
   simp -implicitDefEqProofs [go_sem]
   refine ao _ ks (by simp [go_sem]) ?_
   simp -implicitDefEqProofs [go_sem]
   refine ao _ ko (by simp [go_sem]) ?_
   simp -implicitDefEqProofs [go_sem,hPl,a,g1,u6,u7]
   refine ao _ kp (by simp [go_sem]) ?_
   have x12:List.take 12 X=X:=List.take_of_length_le (by omega)
   have x18:List.drop 18 X=[]:=List.drop_of_length_le (by omega)
   have d12:List.drop 12 (pC d)=[]:=rfl
   simp -implicitDefEqProofs [go_sem,u6,slen,stk,List.take_append,List.drop_append,x12,x18,d12]
   refine ao _ q1 (by simp [go_sem,u9,sro,aF]) ?_
   simp -implicitDefEqProofs [go_sem]
 ·have a1:¬(i:Int)<l.length:=by omega
  have hT:decide (∀i,i<l.length→lb i=true)=true:=decide_eq_true fun j h=>hj j (by omega)
  rw [hT]
  simp -implicitDefEqProofs [go_sem,a1,hPl]
section
variable {H:Type} {enc:TypeId×Value→H} {P:Program} {w:World}
def KA (enc:TypeId×Value→H) (P:Program) (w:World) (t:TypeId):Prop :=
 ∀fuel cs x,DataW.trod enc P w 0 (fun _=>true) true fuel t cs=some x→ui (Rows.uptoBulk x.1) cs
theorem GL (l:List (DataW H)):l.length≤Rows.uptoBulkAll l:=by
 induction l with
 | nil=>simp [Rows.uptoBulkAll]
 | cons x r ih =>
  have:1≤Rows.uptoBulk x:=by cases x with
   | lit l=>cases l<;>simp [Rows.uptoBulk]
   | _=>simp [Rows.uptoBulk]
  simp only [Rows.uptoBulkAll,List.length_cons]; omega
theorem jZ {d:DataW H} {l:List (DataW H)} (h:d∈l):Rows.uptoBulk d≤Rows.uptoBulkAll l:=by
 induction l with
 | nil=>cases h
 | cons x r ih =>
  simp only [Rows.uptoBulkAll]
  cases List.mem_cons.1 h with
  | inl e=>subst e; omega
  | inr e=>have:=ih e; omega
theorem GI {t:TypeId} (ht:P.underlying t=some .bool):KA enc P w t:=fun fuel cs x h=>by
 obtain ⟨b,rfl,_⟩:=DataW.trod_bool ht h
 intro v hv a len cap e
 simp only [List.mem_singleton] at hv
 subst hv; cases e
theorem Df {t:TypeId} {k:IntKind} (ht:P.underlying t=some (.int k)):KA enc P w t:=fun fuel cs x h=>by
 obtain ⟨n,rfl,_,hw⟩:=DataW.trod_int ht h
 intro v hv a len cap e
 simp only [List.mem_singleton] at hv
 subst hv; cases e
theorem uQ {t e:TypeId} (ht:P.underlying t=some (.slice e)):KA enc P w t:=fun fuel cs x h=>by
 rcases DataW.trod_slice ht h with ⟨rfl,rfl⟩|⟨a,len,cap,elems,rest,n,_,rfl,rfl,hb,hl,hm,hlen,hel,_,_⟩
 ·intro v hv a len cap e
  simp only [List.mem_singleton] at hv
  subst hv; cases e; exact Nat.zero_le _
 ·intro v hv a' len' cap' e
  simp only [List.mem_singleton] at hv
  subst hv
  cases e
  have:=GL (elems.map (·.1))
  rw [List.length_map] at this
  simp only [Rows.uptoBulk]
  omega
theorem Bz {t:TypeId} (fs:List (TypeId×Nat)) (ht:IG P t=some (H_ 0 fs)) (hc:fs.map (fun f=>P.cellsOf f.1)=fs.map (fun f=>f.2)) (hn:P.cellsOf t=m8 fs) (ho:∀f∈fs,KA enc P w f.1):KA enc P w t:=fun fuel cs x h=>by
 obtain ⟨gs,k1,k2⟩:=qi ht
 obtain ⟨xs,m,_,rfl,hl,hlen,hf⟩:=DataW.trod_struct k1 h
 have key:∀(fs:List (TypeId×Nat)) (off:Nat),(∀f∈fs,KA enc P w f.1)→fs.map (fun f=>P.cellsOf f.1)=fs.map (fun f=>f.2) →
  (∀(i:Nat) (o:Nat) (t:TypeId),(H_ off fs)[i]?=some (o,t)→∃x∈xs,DataW.trod enc P w 0 (fun _=>true) true m t ((cs.drop o).take (P.cellsOf t))=some x)→ui (Rows.uptoBulkAll (xs.map (·.1))) ((cs.drop off).take (m8 fs)):=by
  intro fs
  induction fs with
  | nil=>intro off _ _ _; simp [m8,ui]
  | cons f fs ih =>
   obtain ⟨t,k⟩:=f
   intro off ho hc hp
   simp only [List.map_cons,List.cons.injEq] at hc
   obtain ⟨x,hx,h1⟩:=hp 0 off t rfl
   rw [hc.1] at h1
   have h2:=(ho (t,k) (by simp) _ _ _ h1).mono (jZ (List.mem_map_of_mem (f:=(·.1)) hx))
   have h3:=ih (off+k) (fun f hf=>ho f (by simp [hf])) hc.2 fun i o t' h=>hp (i+1) o t' h
   have e:(cs.drop off).take (k+m8 fs)=(cs.drop off).take k++(cs.drop (off+k)).take (m8 fs):=by
    rw [List.take_add,List.drop_drop]
   simp only [m8]
   rw [e]
   intro v hv
   rcases List.mem_append.1 hv with h|h
   ·exact h2 v h
   ·exact h3 v h
 have:=key fs 0 ho hc fun i o t' hi=>by
  rw [←k2,List.getElem?_map] at hi
  cases hg:gs.toList[i]? with
  | none=>rw [hg] at hi; cases hi
  | some g =>
   rw [hg] at hi
   simp only [Option.map_some,Option.some.injEq,Prod.mk.injEq] at hi
   obtain ⟨rfl,rfl⟩:=hi
   have h1:=hf i g (by simpa using hg)
   have hlt:i<gs.size:=by simpa using (List.getElem?_eq_some_iff.1 hg).1
   rw [List.getElem?_eq_getElem (by omega)] at h1
   exact ⟨_,List.getElem_mem _,h1⟩
 rw [List.drop_zero,List.take_of_length_le (by omega)] at this
 refine this.mono ?_
 simp only [Rows.uptoBulk]
 omega
end
section
variable {H:Type} {enc:TypeId×Value→H} {w:World}
theorem wQ:KA enc Tryz.prog w 27 :=
 Bz [(25,2),(23,1)] (by kernel_rfl) (by kernel_rfl) (by kernel_rfl) fun f hf=>by
  simp only [List.mem_cons,List.not_mem_nil,or_false] at hf
  rcases hf with rfl|rfl
  ·exact Bz [(4,1),(23,1)] (by kernel_rfl) (by kernel_rfl) (by kernel_rfl) fun f hf=>by
    simp only [List.mem_cons,List.not_mem_nil,or_false] at hf
    rcases hf with rfl|rfl
    ·exact GI (by kernel_rfl)
    ·exact uQ (e:=149) (by kernel_rfl)
  ·exact uQ (e:=149) (by kernel_rfl)
theorem jX:KA enc Tryz.prog w 89 :=
 Bz [(27,3),(27,3),(3,1),(3,1),(27,3)] (by kernel_rfl) (by kernel_rfl) (by kernel_rfl) fun f hf=>by
  simp only [List.mem_cons,List.not_mem_nil,or_false] at hf
  rcases hf with rfl|rfl|rfl|rfl|rfl
  ·exact wQ
  ·exact wQ
  ·exact Df (k := .i64) (by kernel_rfl)
  ·exact Df (k := .i64) (by kernel_rfl)
  ·exact wQ
theorem l6:oe enc Tryz.prog w 55 fun l=>∃(v:List PR) (c:Bool),v.length≤9223372036854775807∧(∀p∈v,p.Lm)∧l=[fK v,.bool c] :=
 (rH (t0:=53) (t1:=4) (n0:=1) (n1:=1) (by kernel_rfl) (by kernel_rfl) D2 (At (by kernel_rfl))).mono fun l ⟨l0,l1,h,⟨v,h1,h2,h3⟩,c,h4⟩=>⟨v,c,h1,h2,by rw [h,h3,h4]; rfl⟩
end
theorem mf {s:SR} {cs:List Value} {cx:Cx} {n:Nat} (h:ui n cs) (hr:Rl cx s.cs cs) (hs:s.Lm):s.width.In n∧s.miter.In n∧s.tol.In n:=by
 have k:∀p:List Nat,nA p∈s.cs→p.length≤n:=fun p hp=>by
  have:=h.len hr _ _ _ hp
  simpa [uA] using this
 refine ⟨⟨k _ (by simp [SR.cs]),hs.width.1,k _ (by simp [SR.cs]),hs.width.2⟩,⟨k _ (by simp [SR.cs]),hs.miter.1,k _ (by simp [SR.cs]),hs.miter.2⟩,⟨k _ (by simp [SR.cs]),hs.tol.1,k _ (by simp [SR.cs]),hs.tol.2⟩⟩
structure StrF (C:List PQ) (closed:Bool) (s:SR) (X:List (List PQ)×Int):Prop where
 err:X.2≠0→X.1=[]
 len:X.1.length≤34
 fine:∀x∈X.1,wG x
 good:∀x∈X.1,x≠[]∧lg x
 ok:X.2=0→C≠[]→0<s.width.val→s.Sml∧aD (iz C closed s)=(X.1,0)
theorem LightS.facts {l:List PR} {s:SR} (h:LightS l s) (closed:Bool) (X:List (List PQ)×Int) (hX:X=c9 (l.map PR.val) closed s) :
 StrF (bp (l.map PR.val) closed) closed s X:=by
 have hS:bp (l.map PR.val) closed≠[]→s.Sml:=fun hn=>h.sty fun e=>hn (by rw [e]; cases closed<;>rfl)
 have hcl:=ja (l.map PR.val) closed
 rw [List.length_map] at hcl
 have hl:=h.len
 have hcz:∀p∈bp (l.map PR.val) closed,p.sz≤1:=fun p hp=>by
  obtain ⟨q,hq,rfl⟩:=List.mem_map.1 (gO _ _ p hp)
  exact (h.pts q hq).sz
 have hcc:=pM closed h.nigh
 unfold c9 at hX
 generalize bp (l.map PR.val) closed=c at *
 by_cases a1:s.width.val≤0
 ·rw [if_pos a1] at hX
  subst hX
  exact ⟨fun h=>absurd rfl h,by simp,fun x hx=>absurd hx List.not_mem_nil,fun x hx=>absurd hx List.not_mem_nil,fun _ _ h2=>absurd a1 (Rat.not_le.2 h2)⟩
 rw [if_neg a1] at hX
 by_cases a2:qL s
 rotate_left
 ·rw [if_pos a2] at hX
  subst hX
  exact ⟨fun h=>rfl,by simp,fun x hx=>absurd hx List.not_mem_nil,fun x hx=>absurd hx List.not_mem_nil,fun h=>absurd h (by decide)⟩
 rw [if_neg (fun h=>h a2)] at hX
 by_cases a3:c=[]
 ·rw [if_pos a3] at hX
  subst hX
  exact ⟨fun h=>absurd rfl h,by simp,fun x hx=>absurd hx List.not_mem_nil,fun x hx=>absurd hx List.not_mem_nil,fun _ h2=>absurd a3 h2⟩
 rw [if_neg a3] at hX
 have s3:=hS a3
 have hf:=rU (closed:=closed) a3 hcz hcc s3
 have hla:=wI c closed s
 have hfl:=j6 (iz c closed s)
 refine ⟨fun h=>by rw [hX] at h ⊢; exact zI _ h,by rw [hX]; omega,fun x hx=>?_,fun x hx=>?_,fun h _ _=>⟨s3,by rw [←hX,←h]⟩⟩
 all_goals
  by_cases e:X.2=0
  rotate_left
  ·have:=zI (iz c closed s) (by rw [←hX]; exact e)
   rw [←hX] at this
   rw [this] at hx; cases hx
  obtain ⟨h1,_⟩:=lJ _ X.1 (by rw [←hX,←e])
 ·exact hf _ (h1 x hx).2
 ·exact ⟨(h1 x hx).1,Gt a3 hcz s3 x (h1 x hx).1 (h1 x hx).2⟩
end Go.Proofs.YtdnmfaljidjijaaGreat
