import Derived.Test.YtdnmfaljidjijaaGreatPk02
import Derived.ProofKit
import Derived.Carry
import Derived.OpenShut
namespace Go.Proofs.YtdnmfaljidjijaaGreat
set_option maxHeartbeats 4000000
open Go Go.Proofs
set_option linter.unusedSimpArgs false
set_option linter.unusedVariables false
set_option maxRecDepth 20000
theorem Hb (a b:List Nat) (ha:cg a) (hb:cg b) (la:bZ 18446744073709551616 a) (lb:bZ 18446744073709551616 b):ag Tryz.prog 223 [nA a,nA b] (nA (ax 18446744073709551616 (Nat.gcd (lv 18446744073709551616 a) (lv 18446744073709551616 b)))):=by
 have ta:=bD a ha.x
 have tb:=bD b hb.x
 have hxl:=dU ha la
 have hyl:=dU hb lb
 rw [aT (by omega) la] at ta
 rw [aT (by omega) lb] at tb
 generalize lv 18446744073709551616 a=A at *
 generalize lv 18446744073709551616 b=V at *
 refine Pg Tryz.func223 rfl [.tmp 4] rfl (gv _) ?_
 simp -implicitDefEqProofs [go_sem]
 refine ac ta ?_
 simp -implicitDefEqProofs [go_sem]
 refine ac (nB (ax 18446744073709551616 A) hxl) ?_
 simp -implicitDefEqProofs [go_sem]
 refine ac tb ?_
 simp -implicitDefEqProofs [go_sem]
 refine ap 9 (α:={q:Nat×Nat // cg (ax 18446744073709551616 q.1)∧cg (ax 18446744073709551616 q.2)∧Nat.gcd q.1 q.2=Nat.gcd A V}) (fun q=>[(0,nA (ax 18446744073709551616 q.1.1)),(1,nA (ax 18446744073709551616 q.1.2))]) (fun q=>[]) (fun q=>q.1.2) ⟨(A,V),hxl,hyl,rfl⟩ [] (by simp) (by simp) (by simp) (by simp -implicitDefEqProofs [go_sem]) (by simp) fun ⟨⟨x,y⟩,h1,h2,h3⟩=>?_
 simp only at h1 h2 h3
 simp -implicitDefEqProofs [go_sem]
 refine ⟨fun h=>?_,fun h=>?_⟩
 ·have hy:y≠0:=fun hh=>by subst hh; rw [aW] at h; simp at h
  have hd:=iD (ax 18446744073709551616 x) (ax 18446744073709551616 y) h1 h2 (ay (by omega) _) (ay (by omega) _) (by rw [aA (by omega)]; exact hy)
  rw [aA (by omega),aA (by omega)] at hd
  refine ac hd ?_
  simp -implicitDefEqProofs [go_sem]
  refine ac (nB (ax 18446744073709551616 y) h2) ?_
  simp -implicitDefEqProofs [go_sem]
  have hlt:=Nat.mod_lt x (show 0<y by omega)
  refine ae ⟨(y,x%y),h2,?_,?_⟩ (by simp only; omega) [] (by simp) (by simp) (by simp) (by simp -implicitDefEqProofs [go_sem]) (by simp)
  ·unfold cg at h2 ⊢
   have h5:x%y<18446744073709551616 ^ (ax 18446744073709551616 y).length:=Nat.lt_trans hlt (by
    have:=cN (ay (B:=18446744073709551616) (by omega) y)
    rwa [aA (by omega)] at this)
   have:=cw (B:=18446744073709551616) (by omega) h5
   simp only
   omega
  ·simp only
   rw [←h3,Nat.gcd_comm,←Nat.gcd_rec,Nat.gcd_comm]
 ·have hy:y=0:=by
   have:ax 18446744073709551616 y=[]:=by
    cases hl:ax 18446744073709551616 y with
    | nil=>rfl
    | cons c l=>rw [hl] at h; simp at h
   exact (bG (by omega)).1 this
  rw [hy,Nat.gcd_zero_right] at h3
  rw [h3]
def j_:Nat→Nat
 | 0=>0
 | n+1=>if (j_ n+1)*(j_ n+1)≤n+1 then j_ n+1 else j_ n
theorem gh:∀n,j_ n*j_ n≤n∧n<(j_ n+1)*(j_ n+1)
 | 0=>by simp [j_]
 | n+1=>by
  obtain ⟨h1,h2⟩:=gh n
  unfold j_
  split
  ·rename_i h
   refine ⟨h,?_⟩
   have:(j_ n+1+1)*(j_ n+1+1)=(j_ n+1)*(j_ n+1)+2*(j_ n+1)+1:=by simp only [Nat.add_mul,Nat.mul_add]; omega
   omega
  ·rename_i h
   exact ⟨by omega,by omega⟩
theorem Eg {a b:Nat} (h:a*a<b*b):a<b:=by
 rcases Nat.lt_or_ge a b with h1|h1
 ·exact h1
 ·exact absurd (Nat.mul_le_mul h1 h1) (by omega)
theorem FE {n x:Nat} (hx:0<x):j_ n≤(x+n / x) / 2:=by
 obtain ⟨k1,k2⟩:=gh n
 generalize j_ n=s at *
 obtain ⟨q,hq⟩:∃q,q=n / x:=⟨_,rfl⟩
 rw [←hq]
 rcases Nat.lt_or_ge (x+q) (2*s) with h|h
 ·exfalso
  have h2:n<(2*s-x)*x:=(Nat.div_lt_iff_lt_mul hx).1 (by rw [←hq]; omega)
  have h3:(2*s-x)*x≤s*s:=by
   obtain ⟨d,hd⟩:∃d,d=2*s-x:=⟨_,rfl⟩
   rw [←hd]
   have hd':(d:Int)=2*(s:Int)-x:=by omega
   have hq:0≤((s:Int)-x)*((s:Int)-x):=by
    rcases Int.le_total 0 ((s:Int)-x) with h|h
    ·exact Int.mul_nonneg h h
    ·have:=Int.mul_nonneg (show 0 ≤ -((s:Int)-x) by omega) (show 0 ≤ -((s:Int)-x) by omega)
     grind
   have he:(d:Int)*x=(s:Int)*s-((s:Int)-x)*((s:Int)-x):=by rw [hd']; grind
   have:(d:Int)*x≤(s:Int)*s:=by omega
   exact_mod_cast this
  omega
 ·omega
theorem Cq {n x:Nat} (hx:0<x) (h:x≤(x+n / x) / 2):x≤j_ n:=by
 have h1:x≤n / x:=by omega
 have h2:x*x≤n:=(Nat.le_div_iff_mul_le hx).1 h1
 obtain ⟨k1,k2⟩:=gh n
 have:=Eg (a:=x) (b:=j_ n+1) (by omega)
 omega
theorem tc {n b:Nat} (h:n<2 ^ b):j_ n<2 ^ ((b+1) / 2):=by
 obtain ⟨k1,k2⟩:=gh n
 refine Eg ?_
 rw [←Nat.pow_add]
 have:2 ^ b≤2 ^ ((b+1) / 2+(b+1) / 2):=Nat.pow_le_pow_right (by omega) (by omega)
 omega
theorem Fu (F:Nat):bZ 18446744073709551616 (List.replicate F 0):=fun x hx=>by rw [(List.mem_replicate.1 hx).2]; decide
theorem D7 (F:Nat):18446744073709551616 ^ F=2 ^ (64*F):=by rw [Nat.pow_mul]
theorem wi (a:List Nat) (k:Nat) (hk:k≤1048576) (ha:cg a) (la:bZ 18446744073709551616 a):ag Tryz.prog 269 [nA a,.int .i64 k] (nA (ax 18446744073709551616 (lv 18446744073709551616 a*2 ^ k))):=by
 by_cases h0:a_ a=[]
 ·have hv:lv 18446744073709551616 a=0:=by rw [←iw,h0]; rfl
  rw [hv,Nat.zero_mul,aW]
  refine (ag.of_go (r := .sl 0 true []) lZ Tryz.func269 rfl (rs:=[.tmp 4]) rfl (by kernel_rfl) (by simp -implicitDefEqProofs [go_sem]) ?_).weaken (Wk.nil 0 1 true)
  simp -implicitDefEqProofs [go_sem]
  refine ac (bD a ha.x) ?_
  simp -implicitDefEqProofs [go_sem,h0]
 ·have hlx:=la.trim
  rw [←iw]
  have hn:=gG a
  obtain ⟨F,hF⟩:∃F,F=k / 64:=⟨_,rfl⟩
  obtain ⟨s,hs'⟩:∃s,s=k%64:=⟨_,rfl⟩
  have hs:s<64:=by omega
  refine Pg Tryz.func269 rfl [.tmp 4] rfl (gv _) ?_
  simp -implicitDefEqProofs [go_sem]
  refine ac (bD a ha.x) ?_
  generalize a_ a=x at *
  unfold cg at ha
  have e1:IntKind.i64.wrap ((k:Int) / 64)=F:=by rw [bS (by omega)]; omega
  have e2:(k:Int).tmod 64=s:=by rw [Int.tmod_eq_emod_of_nonneg (by omega)]; omega
  obtain ⟨m,hm⟩:∃m,m=x.length+1:=⟨_,rfl⟩
  obtain ⟨M,hM⟩:∃M,M=F+m:=⟨_,rfl⟩
  have e3:IntKind.i64.wrap ((F:Int)+(x.length:Int))=(F+x.length:Nat):=by rw [bS (by omega)]; omega
  have e4:IntKind.i64.wrap ((F:Int)+(x.length:Int)+1)=(M:Nat):=by rw [bS (by omega)]; omega
  have e4':IntKind.i64.wrap ((x.length:Int)+1)=(m:Nat):=by rw [bS (by omega)]; omega
  simp -implicitDefEqProofs [go_sem,e1,e2,e3,e4,e4',h0]
  refine ⟨by omega,?_⟩
  rw [jU]
  refine ap 9 (α:={p:List Nat×Nat // p.1.length=m∧p.2≤m∧bZ 18446744073709551616 p.1∧lv 18446744073709551616 (p.1.take p.2)+18446744073709551616 ^ p.2*((if p.2=0 then 0 else x.getD (p.2-1) 0) / 2 ^ (64-s))=lv 18446744073709551616 (x.take p.2)*2 ^ s}) (fun p=>[(0,nA x),(5,.int .i64 F),(6,.int .i64 s),(7,.own 1 0 0 M),(26,.int .i64 m),(27,.int .i64 p.1.2)]) (fun p=>[(0,.live 1 (uA .u64 (List.replicate F 0++p.1.1)))]) (fun p=>m-p.1.2) ⟨(List.replicate m 0,0),by simp,by simp,fun x hx=>by rw [(List.mem_replicate.1 hx).2]; decide,by simp⟩ [] (by simp) (by simp) (by simp) (by simp -implicitDefEqProofs [go_sem]) (by simp -implicitDefEqProofs [go_sem,List.replicate_append_replicate,hM]) fun ⟨⟨out,i⟩,q1,q2,q3,q4⟩=>?_
  simp only at q1 q2 q3 q4
  simp -implicitDefEqProofs [go_sem]
  refine ⟨fun h=>?_,fun h=>?_⟩
  ·obtain ⟨J,hJ⟩:∃J,J=F+i:=⟨_,rfl⟩
   have e5:IntKind.i64.wrap ((i:Int)-1)=(i:Int)-1:=bS (by omega)
   have e6:IntKind.i64.wrap ((F:Int)+(i:Int))=(J:Nat):=by rw [bS (by omega)]; omega
   have hp:(if i=0 then 0 else x.getD (i-1) 0)<18446744073709551616:=by split; omega; exact hlx.getD (by omega) _
   have hy:x.getD i 0<18446744073709551616:=hlx.getD (by omega) _
   have l1:=qx x i
   have l2:=HQ x i
   have t1:=aR 18446744073709551616 x i
   obtain ⟨p,hpp⟩:∃p,p=(if i=0 then 0 else x.getD (i-1) 0):=⟨_,rfl⟩
   obtain ⟨y,hyy⟩:∃y,y=x.getD i 0:=⟨_,rfl⟩
   rw [←hpp] at hp l2 q4
   rw [←hyy] at hy l1 t1
   refine aa l1 ?_
   simp -implicitDefEqProofs [go_sem,e5,e6]
   obtain ⟨v,ev,hv,hsum⟩:=tP hs hy hp
   have e7:=wS i (by omega)
   have hgi:=eI .u64 (l:=List.replicate F 0++out) (i:=J) (by simp; omega)
   have hio:i<out.length:=by omega
   have hset:(List.replicate F 0++out).set J v=List.replicate F 0++out.set i v:=by
    rw [hJ,List.set_append_right _ _ (by simp)]; simp
   refine aa l2 ?_
   simp -implicitDefEqProofs [go_sem,ev,e7,hgi]
   refine ⟨by rw [bS (by omega)]; omega,by omega,by omega,ae ⟨(out.set i v,i+1),by simp [q1],Nat.succ_le_of_lt h,q3.set hv i,?_⟩ (by simp only; omega) [] (by simp) (by simp) (by simp) (by simp -implicitDefEqProofs [go_sem]) (by simp -implicitDefEqProofs [go_sem,dn,hset])⟩
   simp only [Nat.succ_ne_zero,if_false,Nat.add_sub_cancel]
   rw [←hyy,t1,ip (by simp; omega),gr]
   have e8:(out.set i v).take i=out.take i:=by rw [List.take_set_of_le (by omega)]
   have e9:(out.set i v).getD i 0=v:=by rw [List.getD_eq_getElem?_getD,List.getElem?_set_self hio]; rfl
   rw [e8,e9,List.length_take,Nat.min_eq_left (by omega),Nat.pow_succ,Nat.add_mul,Nat.mul_assoc,Nat.mul_assoc,Nat.mul_comm y,←q4]
   rw [Nat.mul_comm y] at hsum
   have h9:18446744073709551616 ^ i*(v+18446744073709551616*(y / 2 ^ (64-s)))=18446744073709551616 ^ i*(2 ^ s*y+p / 2 ^ (64-s)):=by rw [hsum]
   rw [Nat.mul_add,Nat.mul_add] at h9
   omega
  ·have him:i=m:=by omega
   have hMl:M=F+out.length:=by omega
   have htk:List.take M (uA .u64 (List.replicate F 0++out))=uA .u64 (List.replicate F 0++out):=by
    rw [List.take_of_length_le]; simp [uA]; omega
   refine cq [0] _ (bD (List.replicate F 0++out) (by unfold dj; simp; omega)) (by simp -implicitDefEqProofs [go_sem,htk]) (by simp -implicitDefEqProofs [go_sem]) (by simp -implicitDefEqProofs [go_sem,hMl]) (by simp -implicitDefEqProofs [go_sem]) ?_
   rw [him,if_neg (by omega),hm,Nat.add_sub_cancel,List.take_of_length_le (l:=out) (by omega),List.take_of_length_le (l:=x) (by omega)] at q4
   have hz:x.getD x.length 0=0:=by rw [List.getD_eq_getElem?_getD,List.getElem?_eq_none (by omega)]; rfl
   rw [hz,Nat.zero_div,Nat.mul_zero,Nat.add_zero] at q4
   rw [aT (by omega) (bE.2 ⟨Fu F,q3⟩),ce,to,Nat.zero_add,List.length_replicate,q4]
   have:18446744073709551616 ^ F*(lv 18446744073709551616 x*2 ^ s)=lv 18446744073709551616 x*2 ^ k:=by
    rw [D7,Nat.mul_comm,Nat.mul_assoc,←Nat.pow_add,show s+64*F=k by omega]
   rw [this]
   simp -implicitDefEqProofs [go_sem]
theorem FZ (a:List Nat) (k:Nat) (hk:k≤1048576) (ha:cg a) (la:bZ 18446744073709551616 a):ag Tryz.prog 349 [nA a,.int .i64 k] (.tup [nA (ax 18446744073709551616 (lv 18446744073709551616 a*2 ^ k)),.int .i64 0]):=by
 refine Pg Tryz.func349 rfl [.tmp 4,.tmp 5] rfl (by simp -implicitDefEqProofs [go_sem]) ?_
 simp -implicitDefEqProofs [go_sem]
 refine ⟨by omega,fun _=>?_⟩
 refine ac (wi a k hk ha la) ?_
 simp -implicitDefEqProofs [go_sem]
theorem AW {w:World} {b o:Nat} {old:Array Value} {ty:TypeId} {fr:Nat×Nat} (h:w.heap[b]?=some (.cells old ty fr)) (v:Value):w.setCell ⟨b,o,none⟩ v=w.setRow b (old.setIfInBounds o v):=by
 unfold World.setCell World.setRow
 congr 1
 refine Array.ext_getElem? fun i=>?_
 rw [Array.getElem?_modify,Array.getElem?_modify]
 split
 ·rename_i hi; simp only at hi; subst hi
  rw [h]; rfl
 ·rfl
theorem Rl.set {c:Cx} {l:List AV} {vs:List Value} (h:Rl c l vs) (j:Nat) {a:AV} {v:Value} (ha:Rv c a v):Rl c (l.set j a) (vs.set j v):=by
 refine Rl.of_get (by simp [h.length]) fun i x u hx hu=>?_
 rw [List.getElem?_set] at hx hu
 split at hx
 ·rename_i hij
  subst hij
  rw [if_pos rfl] at hu
  split at hx
  ·split at hu
   ·injection hx with hx; injection hu with hu; subst hx; subst hu; exact ha
   ·cases hu
  ·cases hx
 ·rename_i hij
  rw [if_neg hij] at hu
  obtain ⟨u',h1,h2⟩:=h.get i x hx
  rw [h1] at hu; injection hu with hu; subst hu; exact h2
theorem ux {c:Cx} {f:Nat→BS} (hk:HOk c f) {id sz:Nat} {cs:List AV} (hf:f id = .live sz [.agg cs]) {e:Ent} (he:c.mu id=some e) (hr:e.real=true) {j:Nat} (hj:j<cs.length) {a:AV} {v:Value} (ha:Rv c a v) (h1:v.oneCell'=true) :
 ∃c':Cx,c'.w=c.w.setCell ⟨e.block,e.base+j,none⟩ v∧HOk c' (aH f id (.live sz [.agg (cs.set j a)]))∧Stp c c'∧c'.mu=c.mu:=by
 obtain ⟨e',he',hsz,hnr,hreal⟩:=hk.live id sz _ hf
 rw [he] at he'; injection he' with he'; subst he'
 obtain ⟨hre,htot,old,ty,hold,hosz⟩:=hreal hr
 obtain ⟨v0,q1,q2,q3,q4,q5⟩:=hre.get 0 _ rfl
 obtain ⟨vs,rfl,g1,g2⟩:=nv q1
 simp only [Value.cells,Nat.zero_mul,Nat.add_zero] at q2 q5
 have hlen:=g2.length
 have hvs:vs.size=cs.length:=by simpa using hlen
 have hcs:(old.setIfInBounds (e.base+j) v).size=old.size:=by simp
 refine ⟨c.wrote e.block (old.setIfInBounds (e.base+j) v),?_,?_,Stp.wrote hk he hr _,rfl⟩
 ·exact (AW hold v).symm
 ·refine pq hk hf he hr hold hcs (by simpa using htot) fun i a' hi=>?_
  cases i with
  | succ i=>simp at hi
  | zero =>
   simp only [List.getElem?_cons_zero,Option.some.injEq] at hi
   subst hi
   refine ⟨.agg (vs.setIfInBounds j v),?_,by simp [Value.cells,q2],.inl rfl,?_,?_⟩
   ·simp only [Rv]
    refine ⟨_,rfl,fun u hu=>?_,?_⟩
    ·rw [Array.toList_setIfInBounds] at hu
     rcases List.mem_or_eq_of_mem_set hu with h|h
     ·exact g1 u h
     ·rw [h]; exact h1
    ·rw [Array.toList_setIfInBounds]; exact g2.set j ha
   ·intro u hu
    simp only [Value.cells,Array.toList_setIfInBounds] at hu
    rcases List.mem_or_eq_of_mem_set hu with h|h
    ·exact g1 u h
    ·rw [h]; exact h1
   ·intro k u hu
    simp only [Value.cells,Array.toList_setIfInBounds,Nat.zero_mul,Nat.add_zero] at hu ⊢
    rw [List.getElem?_set] at hu
    have hcold:∀k u,c.w.cell? ⟨e.block,k,none⟩=some u→old[k]?=some u:=by
     intro k u hu
     unfold World.cell? at hu
     simp only [hold] at hu
     simpa using hu
    rw [Array.getElem?_setIfInBounds]
    split at hu
    ·rename_i hjk
     subst hjk
     split at hu
     ·injection hu with hu; subst hu
      have hlt:e.base+j<old.size:=by
       have:=hcold _ _ (q5 j vs[j] (by simp))
       exact (Array.getElem?_eq_some_iff.1 this).1
      rw [if_pos rfl,if_pos hlt]
     ·cases hu
    ·rename_i hjk
     rw [if_neg (by omega)]
     exact hcold _ _ (q5 k u (by simpa using hu))
theorem oT {c:Cx} {f:Nat→BS} (hk:HOk c f) {id sz:Nat} {cs:List AV} (hf:f id = .live sz [.agg cs]) {e:Ent} (he:c.mu id=some e) (hr:e.real=true) {j:Nat} {k:IntKind} {n:Int} (hj:cs[j]?=some (.int k n)) :
 c.w.cell? ⟨e.block,e.base+j,none⟩=some (.int k n)∧c.w.frozen? ⟨e.block,e.base+j,none⟩=false:=by
 obtain ⟨e',he',hsz,hnr,hreal⟩:=hk.live id sz _ hf
 rw [he] at he'; injection he' with he'; subst he'
 obtain ⟨hre,htot,old,ty,hold,hosz⟩:=hreal hr
 obtain ⟨v0,q1,q2,q3,q4,q5⟩:=hre.get 0 _ rfl
 obtain ⟨vs,rfl,g1,g2⟩:=nv q1
 simp only [Value.cells,Nat.zero_mul,Nat.add_zero] at q2 q5
 obtain ⟨u,h1,h2⟩:=g2.get j _ hj
 simp only [Rv] at h2; subst h2
 refine ⟨q5 j _ h1,?_⟩
 unfold World.frozen?
 simp [hold]
theorem wU {P:Program} {g:FuncId} {fn:Func} {c:Code} (hf:P.funcs[g]?=some fn) (hb:fn.body=some c) (hname:(fn.name == "runtime.NumGoroutine")=false) {vs:Array Value} {w:World} {Post:Value→World→Prop}
 (h:cX P g vs w Post):Calls P g vs w fun e w'=>∃v,e = .returned v∧Post v w':=by
 have hc:(callFunc g vs).run P w = .ok (.enter g vs) w:=by
  unfold callFunc
  simp only [Sem.run_bind,run_program,Result.andThen_ok,hf,hname,Bool.false_eq_true,if_false,hb,Option.isNone_some,Sem.run_pure]
 unfold cX at h
 rw [hc] at h
 exact h
def jr (sz:Nat) (rest:List AV):BS := .live sz [.agg (.int .u32 0 :: .int .i32 0::rest)]
def cK (sz:Nat) (rest:List AV):BS := .live sz [.agg (.int .u32 0 :: .int .i32 1::rest)]
def de (sz:Nat) (rest:List AV):BS := .live sz [.agg (.int .u32 1 :: .int .i32 0::rest)]
theorem xS {f:Nat→BS} {n id sz:Nat} {rest:List AV} {K:AV→(Nat→BS)→Nat→Prop} (hf:f id=jr sz rest)
 (hfill:CA Tryz.prog 206 [.ptr id 0 0] (aH f id (cK sz rest)) n fun r f' n'=>r = .tup []∧∃rest',f' id=cK sz rest'∧K (.tup []) (aH f' id (de sz rest')) n') :
 CA Tryz.prog 257 [.ptr id 0 0,.fn (.func 206) [.ptr id 0 0] []] f n K:=by
 intro c vs hk hfr hl
 simp only [Rl] at hl
 obtain ⟨v1,r1,rfl,hv1,v2,r2,rfl,hv2,rfl⟩:=hl
 obtain ⟨e,he,hsz,hnr,hreal⟩:=hk.live id sz _ hf
 have hr:e.real=true:=by
  cases h:e.real with
  | true=>rfl
  | false=>exact absurd (hnr h) (by simp)
 have hv1':=hv1
 simp only [Rv] at hv1'
 obtain ⟨hU,b,o,hv1e,hall⟩:=hv1'
 obtain ⟨_,hb,ho⟩:=hall e he
 simp only [Nat.zero_mul,Nat.add_zero] at ho
 subst hb; subst ho
 simp only [Rv] at hv2
 obtain ⟨fa,cb,rfl,h1,h2⟩:=hv2
 simp only [Rl] at h1 h2
 obtain ⟨v3,r3,h3,hv3,rfl⟩:=h1
 have hv3e:v3=v1:=by
  simp only [Rv] at hv3
  obtain ⟨_,b,o,g1,g2⟩:=hv3
  obtain ⟨_,hb,ho⟩:=g2 e he
  simp only [Nat.zero_mul,Nat.add_zero] at ho
  rw [g1,hv1e,hb,ho]
 have hfa:fa = #[v1]:=by
  apply Array.toList_inj.1; rw [h3,hv3e]
 have hcb:cb = #[]:=Array.toList_inj.1 h2
 subst hfa; subst hcb
 refine eK Tryz.func257 rfl (by kernel_rfl) ?_
 obtain ⟨p0,p1⟩:=oT hk hf he hr (j:=0) (k := .u32) (n:=0) rfl
 obtain ⟨p2,p3⟩:=oT hk hf he hr (j:=1) (k := .i32) (n:=0) rfl
 simp only [Nat.add_zero] at p0 p1
 obtain ⟨c1,hc1,hk1,hs1,hm1⟩:=ux hk hf he hr (j:=1) (by simp) (a := .int .i32 1) (v := .int .i32 1) rfl rfl
 have hk1':HOk c1 (aH f id (cK sz rest)):=hk1
 have hfr1:∀j,aH f id (cK sz rest) j = .fresh↔n≤j:=fun j=>by
  by_cases hj:j=id
  ·subst hj
   rw [am,←hfr j,hf]; simp [cK,jr]
  ·rw [aq _ _ _ hj]; exact hfr j
 have hcall:=hfill c1 [v1] hk1' hfr1 (by simp only [Rl]; exact ⟨v1,[],rfl,hv1.keep hs1 hk.shut,rfl⟩)
 rw [hc1] at hcall
 have hcalls:=wU Tryz.func206 rfl (by kernel_rfl) hcall
 rw [hv1e]
 rw [hv1e] at hcalls
 refine (Cw e.block e.base _ c.w (fun w2=>∃(c2:Cx) (f2:Nat→BS) (n2:Nat) (rest':List AV),c2.w=w2∧HOk c2 f2∧Stp c c2∧c2.mu id=some e∧f2 id=cK sz rest'∧K (.tup []) (aH f2 id (de sz rest')) n2∧n≤n2∧∀j,f2 j = .fresh↔n2≤j) p0 p2 p1 p3 (hcalls.mono ?_)).mono ?_
 ·rintro e' w' ⟨v,rfl,c2,r,f2,n2,rfl,⟨rfl,rest',hf2,hK⟩,hk2,hrv,hs2,hn2,hfr2⟩
  obtain ⟨e2,he2,_⟩:=hk2.live id sz _ hf2
  have hee:c2.mu id=some e:=by
   rcases hs2.mu id (hs1.U _ hU) with h|h
   ·rw [h,hm1]; exact he
   ·rw [h] at he2; cases he2
  obtain ⟨s0,s1⟩:=oT hk2 hf2 hee hr (j:=0) (k := .u32) (n:=0) rfl
  obtain ⟨s2,s3⟩:=oT hk2 hf2 hee hr (j:=1) (k := .i32) (n:=1) rfl
  simp only [Nat.add_zero] at s0 s1
  simp only [Rv] at hrv
  obtain ⟨us,rfl,hus⟩:=hrv
  simp only [Rl] at hus
  have:us = #[]:=Array.toList_inj.1 hus
  subst this
  exact ⟨rfl,s0,s2,s1,s3,c2,f2,n2,rest',rfl,hk2,hs1.trans hs2,hee,hf2,hK,hn2,hfr2⟩
 ·rintro e' w' ⟨rfl,w2,⟨c2,f2,n2,rest',rfl,hk2,hs2,hee,hf2,hK,hn2,hfr2⟩,rfl⟩
  obtain ⟨c4,hc4,hk4,hs4,hm4⟩:=ux hk2.drew hf2 hee hr (j:=0) (by simp) (a := .int .u32 1) (v := .int .u32 1) rfl rfl
  obtain ⟨c5,hc5,hk5,hs5,hm5⟩:=ux hk4 (am _ _ _) (by rw [hm4]; exact hee) hr (j:=1) (by simp) (a := .int .i32 0) (v := .int .i32 0) rfl rfl
  simp only [Nat.add_zero] at hc4
  refine ⟨_,rfl,c5,.tup [],aH f2 id (de sz rest'),n2,?_,hK,?_,?_,((hs2.trans (Stp.drew c2)).trans hs4).trans hs5,hn2,fun j=>?_⟩
  ·rw [hc5,hc4]; rfl
  ·have:aH (aH f2 id (.live sz [.agg ((.int .u32 0 :: .int .i32 1::rest').set 0 (.int .u32 1))])) id (.live sz [.agg (((.int .u32 0 :: .int .i32 1::rest').set 0 (.int .u32 1)).set 1 (.int .i32 0))])=aH f2 id (de sz rest'):=by
    funext j; unfold aH; split<;>rfl
   rw [←this]; exact hk5
  ·simp only [Rv]; exact ⟨#[],rfl,by simp only [Rl]⟩
  ·by_cases hj:j=id
   ·subst hj
    rw [am,←hfr2 j,hf2]; simp [cK,de]
   ·rw [aq _ _ _ hj]; exact hfr2 j
theorem J2 (a:Addr) (x:Int) (w:World) (hc:w.cell? a=some (.int .u32 x)) :
 Calls Tryz.prog 256 #[.pointer (some a)] w fun e w'=>e = .returned (.bool (x != 0))∧w'=w:=by
 have hl:=run_call_load (P:=Tryz.prog) Tryz.func298 (by kernel_rfl) (by kernel_rfl) (by kernel_rfl) .u32 (by kernel_rfl) hc
 go_enter Tryz.func256,Tryz.ntmps256
 go_wp2
 refine bodyPost_ret (results_tmp rfl _ _ _) rfl ?_
 exact ⟨rfl,rfl⟩
theorem mK {f:Nat→BS} {n id sz:Nat} {x:Int} {rest:List AV} {K:AV→(Nat→BS)→Nat→Prop} (hf:f id = .live sz [.agg (.int .u32 x::rest)]) (hK:K (.bool (x != 0)) f n) :
 CA Tryz.prog 256 [.ptr id 0 0] f n K:=by
 intro c vs hk hfr hl
 simp only [Rl] at hl
 obtain ⟨v1,r1,rfl,hv1,rfl⟩:=hl
 obtain ⟨e,he,hsz,hnr,hreal⟩:=hk.live id sz _ hf
 have hr:e.real=true:=by
  cases h:e.real with
  | true=>rfl
  | false=>exact absurd (hnr h) (by simp)
 simp only [Rv] at hv1
 obtain ⟨hU,b,o,hv1e,hall⟩:=hv1
 obtain ⟨_,hb,ho⟩:=hall e he
 simp only [Nat.zero_mul,Nat.add_zero] at ho
 subst hb; subst ho
 subst hv1e
 obtain ⟨p0,p1⟩:=oT hk hf he hr (j:=0) (k := .u32) (n:=x) rfl
 simp only [Nat.add_zero] at p0
 refine eK Tryz.func256 rfl (by kernel_rfl) ((J2 _ x c.w p0).mono ?_)
 rintro e' w' ⟨rfl,rfl⟩
 exact ⟨_,rfl,c,_,f,n,rfl,hK,hk,by simp only [Rv],Stp.refl c,Nat.le_refl _,hfr⟩
theorem Ia {f:Nat→BS} {n id sz:Nat} {g:AV} {rest:List AV} {K:AV→(Nat→BS)→Nat→Prop} (hf:f id=de sz rest) (hK:K (.tup []) f n) :
 CA Tryz.prog 205 [.ptr id 0 0,g] f n K:=by
 refine Cg Tryz.func205 rfl [] rfl ?_
 simp -implicitDefEqProofs [go_sem]
 refine mK hf ?_
 simp -implicitDefEqProofs [go_sem]
 exact hK
theorem nO {f:Nat→BS} {n id sz:Nat} {rest:List AV} {K:AV→(Nat→BS)→Nat→Prop} (hf:f id=jr sz rest)
 (hfill:CA Tryz.prog 206 [.ptr id 0 0] (aH f id (cK sz rest)) n fun r f' n'=>r = .tup []∧∃rest',f' id=cK sz rest'∧K (.tup []) (aH f' id (de sz rest')) n') :
 CA Tryz.prog 205 [.ptr id 0 0,.fn (.func 206) [.ptr id 0 0] []] f n K:=by
 refine Cg Tryz.func205 rfl [] rfl ?_
 simp -implicitDefEqProofs [go_sem]
 refine mK hf ?_
 simp -implicitDefEqProofs [go_sem]
 refine xS hf (hfill.mono ?_)
 rintro r f' n' ⟨h1,rest',h2,h3⟩
 refine ⟨h1,rest',h2,?_⟩
 simp -implicitDefEqProofs [go_sem]
 exact h3
def NB (g:Nat) (R:List AV):AV→AV
 | .ptr id idx off=>if id=g∧idx=0 then .rp (R.drop off) else .ptr id idx off
 | a=>a
def lM (g:Nat) (j:Nat) (b:BS):BS:=if j=g then .dead else b
theorem Cf {ne:Nat} {t:Nat→AV} {f:Nat→BS} {n:Nat} (g sz:Nat) (cs R:List AV) (hg:f g = .live sz [.agg cs]) (hw:rQ cs R) :
 le ne ⟨t,f,n⟩ ⟨fun k=>NB g R (t k),fun j=>lM g j (f j),n⟩:=by
 rintro c0 N a w ⟨c,rfl,hk,hfr,ht,hN,hd,hs,h0,hnn⟩
 obtain ⟨e,he,hesz,hnr,hreal⟩:=hk.live g sz _ hg
 let c':Cx:={ w:=c.w,mu:=aH c.mu g none,U:=c.U,F:=fun b=>c.F b∧(e.real=true→b≠e.block) }
 have hkr:Kr c c':=⟨Nat.le_refl _,fun b _ _ o v h=>h,fun _ h=>h,fun id _=>by
  by_cases hid:id=g
  ·right; subst hid; exact am _ _ _
  ·left; exact aq _ _ _ hid,fun b _ h=>h.1⟩
 have hmu:∀id e',c'.mu id=some e'→id≠g∧c.mu id=some e':=fun id e' h=>by
  by_cases hid:id=g
  ·subst hid; rw [show c'.mu id=none from am _ _ _] at h; cases h
  ·rw [show c'.mu id=c.mu id from aq _ _ _ hid] at h; exact ⟨hid,h⟩
 have hmu2:∀id,id≠g→c'.mu id=c.mu id:=fun id h=>aq _ _ _ h
 have key:∀(x:AV) (v:Value),Rv c x v→Rv c' (NB g R x) v:=by
  intro x v h
  cases x with
  | ptr id idx off =>
   simp only [NB]
   split
   ·rename_i hh
    obtain ⟨rfl,rfl⟩:=hh
    simp only [Rv] at h ⊢
    obtain ⟨hU,b,o,rfl,h5⟩:=h
    obtain ⟨hr,rfl,rfl⟩:=h5 e he
    obtain ⟨hre,_⟩:=hreal hr
    obtain ⟨v0,q1,q2,q3,q4,q5⟩:=hre.get 0 _ rfl
    obtain ⟨vs,rfl,g1,g2⟩:=nv q1
    simp only [Value.cells,Nat.zero_mul,Nat.add_zero] at q5 ⊢
    have g3:Rl c' R vs.toList:=hw.1 c' _ (g2.keepR hkr)
    refine ⟨_,_,vs.toList.drop off,rfl,hk.lt he hr,fun hF=>hF.2 hr rfl,fun u hu=>g1 u (List.mem_of_mem_drop hu),?_,?_⟩
    ·refine Rl.of_get (by simp [g3.length]) fun i x u hx hu=>?_
     rw [List.getElem?_drop] at hx hu
     obtain ⟨u',k1,k2⟩:=g3.get _ x hx
     rw [k1] at hu; injection hu with hu; subst hu; exact k2
    ·intro k u hu
     rw [List.getElem?_drop] at hu
     have:=q5 (off+k) u hu
     rwa [←Nat.add_assoc] at this
   ·exact Rv.keepR hkr _ _ h
  | _=>exact Rv.keepR hkr _ _ h
 have hfresh:∀j,lM g j (f j) = .fresh↔f j = .fresh:=fun j=>by
  unfold lM
  split
  ·rename_i h; subst h; rw [hg]; simp
  ·rfl
 have hst:Stp c0 c':=by
  refine ⟨hs.os,hs.tape,hs.output,hs.size,hs.keep,hs.U,fun id h=>?_,fun id e' h hr=>hs.new id e' (hmu id e' h).2 hr,fun b hb=>⟨fun h=>(hs.F b hb).1 h.1,fun hn hF=>⟨(hs.F b hb).2 hn hF,fun hr hbe=>?_⟩⟩⟩
  ·by_cases hid:id=g
   ·subst hid; right; exact am _ _ _
   ·rw [hmu2 id hid]; exact hs.mu id h
  ·subst hbe
   rcases hs.new g e he hr with h1|⟨j,e',hj,hr',hb'⟩
   ·omega
   ·exact hn j e' hj hr' hb'
 refine ⟨c',rfl,?_,fun j=>(hfresh j).trans (hfr j),fun k=>key _ _ (ht k),hN,dT.back (c:=c) (c':=c') rfl (fun id e' h=>⟨id,(hmu id e' h).2⟩) hd,hst,h0,hnn⟩
 have hne:∀id b,lM g id (f id)=b→b ≠ .dead→id≠g∧f id=b:=fun id b h hb=>by
  unfold lM at h
  split at h
  ·exact absurd h.symm hb
  ·exact ⟨by assumption,h⟩
 constructor
 ·intro id; exact (hk.used id).trans (not_congr (hfresh id)).symm
 ·intro id h
  by_cases hid:id=g
  ·subst hid; exact am _ _ _
  ·rw [hmu2 id hid]
   refine hk.none id ?_
   change lM g id (f id) = .fresh∨lM g id (f id) = .dead at h
   unfold lM at h
   simpa only [if_neg hid] using h
 ·intro id s m h
  obtain ⟨hid,hf⟩:=hne id _ h (by simp)
  obtain ⟨e2,he2,h1,h2,h3⟩:=hk.live id s m hf
  refine ⟨e2,by rw [hmu2 id hid]; exact he2,h1,h2,fun hr=>?_⟩
  obtain ⟨hre,htot,cs,ty,hh,hsz⟩:=h3 hr
  refine ⟨Re.of_get fun i x hi=>?_,htot,cs,ty,hh,hsz⟩
  obtain ⟨v,g1,g2⟩:=hre.get i x hi
  exact ⟨v,g1.keepR hkr,g2⟩
 ·intro id o tt h
  obtain ⟨hid,hf⟩:=hne id _ h (by simp)
  obtain ⟨e2,oo,he2,h1,h2,h3,hS,h4,h5,h6⟩:=hk.obj id o tt hf
  exact ⟨e2,oo,by rw [hmu2 id hid]; exact he2,h1,h2,h3,hS,h4,fun k=>(h5 k).keepR hkr,h6⟩
 ·intro i j ei ej hi hj
  exact hk.inj i j ei ej (hmu i ei hi).2 (hmu j ej hj).2
 ·intro id e2 h hr
  obtain ⟨hid,h2⟩:=hmu id e2 h
  exact ⟨hk.shut id e2 h2 hr,fun hre hb=>hid (hk.inj id g e2 e h2 he hr hre hb)⟩
section
variable {P:Program} {z:Bool} {ne:Nat} {Q:AEx→St→Prop} {k:List Itm} {t:Nat→AV} {f:Nat→BS} {n:Nat}
theorem Hk {bq:Bool} {g:FuncId} {args args':List AV} {d:Option Tmp} (r:AV) (hp:ag P g args' r) (hw:rQ args args') (hro:roL args') (h:go P z ne Q k (aX t d r) f n):I2 P z ne Q bq g args d k t f n:=by
 refine Hj r (fun f' hf' c vs h1 h3=>?_) h
 have hcv:CV P g args' f r := .of_pure (by rw [viewL_ro f args' hro]; exact hp) (by rw [viewL_ro f args' hro]; exact hro) (fitsL_ro f args' hro) (.inl hro)
 exact hcv f' hf' c vs h1 (hw.1 c vs h3)
end
attribute [go_sem] NB lM
theorem G_ {c:Cx} {f:Nat→BS} {n:Nat} (hk:HOk c f) (hfr:∀j,f j = .fresh↔n≤j) (g sz:Nat) (cs R:List AV) (hg:f g = .live sz [.agg cs]) (hw:rQ cs R) {v:Value} {off:Nat} (hv:Rv c (.ptr g 0 off) v) :
 ∃c',c'.w=c.w∧HOk c' (fun j=>lM g j (f j))∧Stp c c'∧Rv c' (.rp (R.drop off)) v:=by
 have hle:=Cf (ne:=n) (t:=fun k=>if k=0 then .ptr g 0 off else .any) (n:=n) g sz cs R hg hw
 have hU:∀j,c.U j→j<n:=fun j hj=>by
  rcases Nat.lt_or_ge j n with h|h
  ·exact h
  ·exact absurd ((hfr j).2 h) ((hk.used j).1 hj)
 obtain ⟨c2,k1,k2,k3,k4,k5,k6,k7,k8,k9⟩:=hle c 1 { tmps := #[v],defers:=[] } c.w ⟨c,rfl,hk,hfr,fun k=>by
  by_cases hk:k=0
  ·subst hk; simp; exact hv
  ·simp only [if_neg hk,Rv],rfl,trivial,Stp.refl c,hU,Nat.le_refl _⟩
 refine ⟨c2,k1,k2,k7,?_⟩
 have h:=k4 0
 simp only [if_true,NB] at h
 simpa [NB] using h
section
variable {P:Program} {z:Bool} {ne:Nat} {Q:AEx→St→Prop} {k:List Itm} {t:Nat→AV} {f:Nat→BS} {n:Nat}
theorem jc {g:FuncId} {d:Option Tmp} (id sz:Nat) (cs R:List AV) (hid:f id = .live sz [.agg cs]) (hw:rQ cs R) (hR:roL R) (r:AV) (hp:ag P g [.rp R] r) (h:go P z ne Q k (aX t d r) (fun j=>lM id j (f j)) n):Bo P z ne Q g [.ptr id 0 0] d k t f n:=by
 have h1:Bo P z ne Q g [.rp R] d k t (fun j=>lM id j (f j)) n:=ah r hp (by simp only [roL,ro]; exact ⟨hR,trivial⟩) h
 intro c vs q1 q2 q3
 simp only [Rl] at q3
 obtain ⟨v,rest,rfl,hv,rfl⟩:=q3
 obtain ⟨c',e1,e2,e3,e4⟩:=G_ q1 q2 id sz cs R hid hw hv
 have hfresh:∀j,lM id j (f j) = .fresh↔n≤j:=fun j=>by
  rw [←q2 j]
  unfold lM
  split
  ·rename_i h; subst h; rw [hid]; simp
  ·rfl
 have:=h1 c' [v] e2 hfresh (by simp only [Rl]; exact ⟨v,[],rfl,by simpa using e4,rfl⟩)
 rw [e1] at this
 exact this.mono fun v w' ⟨c2,r2,f2,n2,s1,s2,s3,s4,s5,s6,s7⟩=>⟨c2,r2,f2,n2,s1,s2,s3,s4,e3.trans s5,s6,s7⟩
end
def Qm (P:Program) (g:FuncId) (args:List AV) (sz:Nat) (e0:Int) (R:Nat→List AV→Prop):Prop :=
 CA P g args (fun _ => .fresh) 0 fun r f1 _=>∃id k l,r = .tup [.own sz id 0 k,.int .i64 e0]∧f1 id = .live sz l∧roL l∧R k l
theorem HZ {P:Program} {g:FuncId} {args:List AV} {sz:Nat} {e0:Int} {R:Nat→List AV→Prop} (h:Qm P g args sz e0 R) {c:Cx} {f:Nat→BS} (hk:HOk c f) {n0:Nat} (hn:f n0 = .fresh) (hro:roL args) {vs:List Value} (hv:Rl c args vs) :
 cX P g vs.toArray c.w fun v w'=>∃c' k l,R k l∧roL l∧c'.w=w'∧HOk c' (aH f n0 (.live sz l))∧Rv c' (.tup [.own sz n0 0 k,.int .i64 e0]) v∧Stp c c':=by
 have hU0:¬c.U n0:=fun hu=>(hk.used n0).1 hu hn
 have hk0:HOk (c.bare c.F) (fun _ => .fresh):=by
  constructor
  ·intro id; simp [Cx.bare]
  ·intro id _; rfl
  ·intro id sz l h; cases h
  ·intro id o t h; cases h
  ·intro i j ei ej h; cases h
  ·intro id e h; cases h
 have hl0:Rl (c.bare c.F) args vs:=Rl.ro (c:=c) (c':=c.bare c.F) rfl (fun _ _ h=>h) args vs hro hv
 refine (h (c.bare c.F) vs hk0 (fun _=>by simp) hl0).mono fun v w' ⟨c1,r,f1,n',q1,⟨id,k,l,q2,q3,q3r,q4⟩,q5,q6,q7,_,_⟩=>?_
 subst q2
 obtain ⟨e,he,p1,p2,p3⟩:=q5.live id sz l q3
 have hnew:e.real=true→c.w.heap.size≤e.block:=fun hre=>by
  rcases q7.new id e he hre with h1|⟨j,e',hj,_⟩
  ·exact h1
  ·cases hj
 have hsz:c.w.heap.size≤c1.w.heap.size:=q7.size
 have hkeep:∀b,b<c.w.heap.size→c1.w.heap[b]?=c.w.heap[b]?:=fun b hb=>q7.keep b hb (fun _ _ he=>by cases he)
 let c':Cx:={ w:=c1.w,mu:=aH c.mu n0 (some e),U:=fun j=>c.U j∨j=n0,F:=fun b=>(c.F b∧b<c.w.heap.size)∨(e.real=true∧b=e.block) }
 have hF:∀b,b<c1.w.heap.size→c'.F b→c1.F b:=by
  intro b _ hb
  rcases hb with ⟨h1,h2⟩|⟨h1,h2⟩
  ·exact (q7.F b h2).2 (fun _ _ he=>by cases he) h1
  ·rw [h2]; exact q5.shut id e he h1
 have hst:Stp c c':=by
  refine ⟨q7.os,q7.tape,q7.output,q7.size,fun b hb _=>hkeep b hb,fun _ h => .inl h,fun j hj=>?_,fun j e' hj hre=>?_,fun b hb=>⟨fun h=>?_,fun _ h => .inl ⟨h,hb⟩⟩⟩
  ·exact .inl (aq _ _ _ fun hh=>hU0 (hh▸hj))
  ·by_cases hjn:j=n0
   ·subst hjn
    simp only [c',am,Option.some.injEq] at hj
    subst hj; exact .inl (hnew hre)
   ·simp only [c'] at hj
    rw [aq _ _ _ hjn] at hj
    exact .inr ⟨j,e',hj,hre,rfl⟩
  ·rcases h with h|⟨h1,h2⟩
   ·exact h.1
   ·have:=hnew h1; omega
 refine ⟨c',k,l,q4,q3r,q1,?_,?_,hst⟩
 ·constructor
  ·intro j
   by_cases hj:j=n0
   ·subst hj; rw [am]; exact ⟨fun _=>by simp,fun _ => .inr rfl⟩
   ·rw [aq _ _ _ hj]
    exact ⟨fun h=>(hk.used j).1 (h.resolve_right hj),fun h => .inl ((hk.used j).2 h)⟩
  ·intro j hj
   by_cases hji:j=n0
   ·subst hji; rw [am] at hj; simp at hj
   ·rw [aq _ _ _ hji] at hj
    simp only [c']; rw [aq _ _ _ hji]; exact hk.none j hj
  ·intro j sz' l2 hj
   by_cases hji:j=n0
   ·subst hji; rw [am] at hj; cases hj
    refine ⟨e,by simp only [c',am],p1,p2,fun hre=>?_⟩
    obtain ⟨u1,u2⟩:=p3 hre
    exact ⟨Re.ro (c:=c1) (c':=c') rfl hF _ _ _ _ q3r u1,u2⟩
   ·rw [aq _ _ _ hji] at hj
    obtain ⟨e',he',u1,u2,u3⟩:=hk.live j sz' l2 hj
    refine ⟨e',by simp only [c']; rw [aq _ _ _ hji]; exact he',u1,u2,fun hre=>?_⟩
    obtain ⟨hre1,htot,cs,ty,hh,hsz'⟩:=u3 hre
    have hb:=hkeep _ (hk.lt he' hre)
    refine ⟨Re.of_get fun i a hi=>?_,htot,cs,ty,by rw [←hh]; exact hb,hsz'⟩
    obtain ⟨v',x1,x2,x3,x4,x5⟩:=hre1.get i a hi
    exact ⟨v',x1.keep hst hk.shut,x2,x3,x4,x5.block hb⟩
  ·intro j o t hj
   by_cases hji:j=n0
   ·subst hji; rw [am] at hj; cases hj
   ·rw [aq _ _ _ hji] at hj
    obtain ⟨e',oo,he',u1,u2,u3,uS,u4,u5,u6⟩:=hk.obj j o t hj
    exact ⟨e',oo,by simp only [c']; rw [aq _ _ _ hji]; exact he',u1,u2,u3,uS,(hkeep _ (hk.lt he' u1)).trans u4,fun k=>(u5 k).keep hst hk.shut,u6⟩
  ·intro i j ei ej hi hj hri hrj hb
   simp only [c'] at hi hj
   by_cases hii:i=n0
   ·by_cases hjj:j=n0
    ·rw [hii,hjj]
    ·rw [hii,am] at hi
     rw [aq _ _ _ hjj] at hj
     injection hi with hi; subst hi
     have:=hnew hri; have:=hk.lt hj hrj; omega
   ·rw [aq _ _ _ hii] at hi
    by_cases hjj:j=n0
    ·rw [hjj,am] at hj
     injection hj with hj; subst hj
     have:=hnew hrj; have:=hk.lt hi hri; omega
    ·rw [aq _ _ _ hjj] at hj
     exact hk.inj i j ei ej hi hj hri hrj hb
  ·intro j e' hj hre
   simp only [c'] at hj
   by_cases hjj:j=n0
   ·rw [hjj,am] at hj
    injection hj with hj; subst hj
    exact .inr ⟨hre,rfl⟩
   ·rw [aq _ _ _ hjj] at hj
    exact .inl ⟨hk.shut j e' hj hre,hk.lt hj hre⟩
 ·simp only [Rv,Rl] at q6 ⊢
  obtain ⟨us,y1,w1,rest,y2,⟨x1,x2,x3⟩,y3⟩:=q6
  rw [he] at x2 x3
  exact ⟨us,y1,w1,rest,y2,⟨.inr rfl,fun e' he'=>by simp only [c',am,Option.some.injEq] at he'; subst he'; exact p1,by simpa [c'] using x3⟩,y3⟩
theorem mz {P:Program} {z:Bool} {ne:Nat} {Q:AEx→St→Prop} {k:List Itm} {t:Nat→AV} {f:Nat→BS} {n:Nat} {g:FuncId} {d:Option Tmp} {sz:Nat} {e0:Int} {R:Nat→List AV→Prop} (id sz0:Nat) (cs Rc:List AV) (hid:f id = .live sz0 [.agg cs]) (hw:rQ cs Rc) (hR:roL Rc) (hp:Qm P g [.rp Rc] sz e0 R)
 (h:∀m l,R m l→go P z ne Q k (aX t d (.tup [.own sz n 0 m,.int .i64 e0])) (aH (fun j=>lM id j (f j)) n (.live sz l)) (n+1)):Bo P z ne Q g [.ptr id 0 0] d k t f n:=by
 intro c vs q1 q2 q3
 simp only [Rl] at q3
 obtain ⟨v,rest,rfl,hv,rfl⟩:=q3
 obtain ⟨c',e1,e2,e3,e4⟩:=G_ q1 q2 id sz0 cs Rc hid hw hv
 have hfresh:∀j,lM id j (f j) = .fresh↔n≤j:=fun j=>by
  rw [←q2 j]
  unfold lM
  split
  ·rename_i h; subst h; rw [hid]; simp
  ·rfl
 have:=HZ hp e2 ((hfresh n).2 (Nat.le_refl _)) (by simp only [roL,ro]; exact ⟨hR,trivial⟩) (vs:=[v]) (by simp only [Rl]; exact ⟨v,[],rfl,by simpa using e4,rfl⟩)
 rw [e1] at this
 refine this.mono fun v w' ⟨c2,m,l,hRR,hrl,s1,s2,s3,s4⟩=>⟨c2,_,_,n+1,s1,h m l hRR,s2,s3,e3.trans s4,by omega,fun j=>?_⟩
 by_cases hj:j=n
 ·subst hj; rw [am]; simp
 ·rw [aq _ _ _ hj,hfresh j]; omega
set_option maxRecDepth 100000
theorem Cv (b off:Nat) (v:Value) (w:World) (Q:World→Prop)
 (h0:w.cell? ⟨b,off,none⟩=some (.int .u32 0)) (h1:w.cell? ⟨b,off+1,none⟩=some (.int .i32 0))
 (_f0:w.frozen? ⟨b,off,none⟩=false) (f1:w.frozen? ⟨b,off+1,none⟩=false)
 (hfill:Calls Tryz.prog 310 #[v] (w.setCell ⟨b,off+1,none⟩ (.int .i32 1)) fun e w2=>e = .returned (.tuple #[]) ∧
  w2.cell? ⟨b,off,none⟩=some (.int .u32 0)∧w2.cell? ⟨b,off+1,none⟩=some (.int .i32 1)∧w2.frozen? ⟨b,off,none⟩=false∧w2.frozen? ⟨b,off+1,none⟩=false∧Q w2) :
 Calls Tryz.prog 257 #[.pointer (some ⟨b,off,none⟩),.func (.func 310) #[v] #[]] w fun e w'=>e = .returned (.tuple #[]) ∧
  ∃w2,Q w2∧w'=(w2.drew.setCell ⟨b,off,none⟩ (.int .u32 1)).setCell ⟨b,off+1,none⟩ (.int .i32 0):=by
 have hl:=tC ⟨b,off,none⟩ (w.setCell ⟨b,off+1,none⟩ (.int .i32 1)) ((World.cell?_setCell_other _ ⟨b,off+1,none⟩ ⟨b,off,none⟩ _ (by simp)).trans h0)
 have hnot:∀(x:Bool) (w:World),(Op.unary .not (.bool x)).run Tryz.prog w = .ok (.bool (!x)) w:=fun _ _=>rfl
 go_enter_defers Tryz.func257,Tryz.ntmps257
 go_wp2_with (first|(go_at_call 256; refine hl.mono ?_; rintro e w' ⟨rfl,rfl⟩)|(go_at_call 299; refine (xQ ⟨b,off+1,none⟩ _ (by go_simp) (by go_simp)).mono ?_; rintro e w' ⟨rfl,rfl⟩)|(go_at_call 310; refine hfill.mono ?_; rintro e w' ⟨rfl,g0,g1,g2,g3,gQ⟩))
 refine leaves_cons (f:=301) (args := #[.pointer (some ⟨b,off,none⟩),.bool true]) (by simp) (by simp [go_sem]) ?_
 refine (tD ⟨b,off,none⟩ (.int .u32 0) .returning _ g0 (by simp [g2])).mono ?_
 rintro e u' w'' ⟨rfl,rfl,rfl⟩
 refine leaves_cons (f:=300) (args := #[.pointer (some ⟨b,off+1,none⟩)]) (by simp [settle]) (by simp [go_sem]) ?_
 refine (p9 ⟨b,off+1,none⟩ _ _ ?_ (by simp [g3])).mono ?_
 ·refine (World.cell?_setCell_other _ ⟨b,off,none⟩ ⟨b,off+1,none⟩ _ (by simp)).trans ?_
  rw [World.cell?_drew]
  exact g1
 rintro e u' w'' ⟨rfl,rfl,rfl⟩
 simp [Leaves,settle,results,Tryz.results257]
 exact ⟨_,gQ,rfl⟩
set_option maxRecDepth 20000
theorem xR {f:Nat→BS} {n id sz:Nat} {rest:List AV} {K:AV→(Nat→BS)→Nat→Prop} (hf:f id=jr sz rest)
 (hfill:CA Tryz.prog 310 [.ptr id 0 0] (aH f id (cK sz rest)) n fun r f' n'=>r = .tup []∧∃rest',f' id=cK sz rest'∧K (.tup []) (aH f' id (de sz rest')) n') :
 CA Tryz.prog 257 [.ptr id 0 0,.fn (.func 310) [.ptr id 0 0] []] f n K:=by
 intro c vs hk hfr hl
 simp only [Rl] at hl
 obtain ⟨v1,r1,rfl,hv1,v2,r2,rfl,hv2,rfl⟩:=hl
 obtain ⟨e,he,hsz,hnr,hreal⟩:=hk.live id sz _ hf
 have hr:e.real=true:=by
  cases h:e.real with
  | true=>rfl
  | false=>exact absurd (hnr h) (by simp)
 have hv1':=hv1
 simp only [Rv] at hv1'
 obtain ⟨hU,b,o,hv1e,hall⟩:=hv1'
 obtain ⟨_,hb,ho⟩:=hall e he
 simp only [Nat.zero_mul,Nat.add_zero] at ho
 subst hb; subst ho
 simp only [Rv] at hv2
 obtain ⟨fa,cb,rfl,h1,h2⟩:=hv2
 simp only [Rl] at h1 h2
 obtain ⟨v3,r3,h3,hv3,rfl⟩:=h1
 have hv3e:v3=v1:=by
  simp only [Rv] at hv3
  obtain ⟨_,b,o,g1,g2⟩:=hv3
  obtain ⟨_,hb,ho⟩:=g2 e he
  simp only [Nat.zero_mul,Nat.add_zero] at ho
  rw [g1,hv1e,hb,ho]
 have hfa:fa = #[v1]:=by
  apply Array.toList_inj.1; rw [h3,hv3e]
 have hcb:cb = #[]:=Array.toList_inj.1 h2
 subst hfa; subst hcb
 refine eK Tryz.func257 rfl (by kernel_rfl) ?_
 obtain ⟨p0,p1⟩:=oT hk hf he hr (j:=0) (k := .u32) (n:=0) rfl
 obtain ⟨p2,p3⟩:=oT hk hf he hr (j:=1) (k := .i32) (n:=0) rfl
 simp only [Nat.add_zero] at p0 p1
 obtain ⟨c1,hc1,hk1,hs1,hm1⟩:=ux hk hf he hr (j:=1) (by simp) (a := .int .i32 1) (v := .int .i32 1) rfl rfl
 have hk1':HOk c1 (aH f id (cK sz rest)):=hk1
 have hfr1:∀j,aH f id (cK sz rest) j = .fresh↔n≤j:=fun j=>by
  by_cases hj:j=id
  ·subst hj
   rw [am,←hfr j,hf]; simp [cK,jr]
  ·rw [aq _ _ _ hj]; exact hfr j
 have hcall:=hfill c1 [v1] hk1' hfr1 (by simp only [Rl]; exact ⟨v1,[],rfl,hv1.keep hs1 hk.shut,rfl⟩)
 rw [hc1] at hcall
 have hcalls:=wU Tryz.func310 rfl (by kernel_rfl) hcall
 rw [hv1e]
 rw [hv1e] at hcalls
 refine (Cv e.block e.base _ c.w (fun w2=>∃(c2:Cx) (f2:Nat→BS) (n2:Nat) (rest':List AV),c2.w=w2∧HOk c2 f2∧Stp c c2∧c2.mu id=some e∧f2 id=cK sz rest'∧K (.tup []) (aH f2 id (de sz rest')) n2∧n≤n2∧∀j,f2 j = .fresh↔n2≤j) p0 p2 p1 p3 (hcalls.mono ?_)).mono ?_
 ·rintro e' w' ⟨v,rfl,c2,r,f2,n2,rfl,⟨rfl,rest',hf2,hK⟩,hk2,hrv,hs2,hn2,hfr2⟩
  obtain ⟨e2,he2,_⟩:=hk2.live id sz _ hf2
  have hee:c2.mu id=some e:=by
   rcases hs2.mu id (hs1.U _ hU) with h|h
   ·rw [h,hm1]; exact he
   ·rw [h] at he2; cases he2
  obtain ⟨s0,s1⟩:=oT hk2 hf2 hee hr (j:=0) (k := .u32) (n:=0) rfl
  obtain ⟨s2,s3⟩:=oT hk2 hf2 hee hr (j:=1) (k := .i32) (n:=1) rfl
  simp only [Nat.add_zero] at s0 s1
  simp only [Rv] at hrv
  obtain ⟨us,rfl,hus⟩:=hrv
  simp only [Rl] at hus
  have:us = #[]:=Array.toList_inj.1 hus
  subst this
  exact ⟨rfl,s0,s2,s1,s3,c2,f2,n2,rest',rfl,hk2,hs1.trans hs2,hee,hf2,hK,hn2,hfr2⟩
 ·rintro e' w' ⟨rfl,w2,⟨c2,f2,n2,rest',rfl,hk2,hs2,hee,hf2,hK,hn2,hfr2⟩,rfl⟩
  obtain ⟨c4,hc4,hk4,hs4,hm4⟩:=ux hk2.drew hf2 hee hr (j:=0) (by simp) (a := .int .u32 1) (v := .int .u32 1) rfl rfl
  obtain ⟨c5,hc5,hk5,hs5,hm5⟩:=ux hk4 (am _ _ _) (by rw [hm4]; exact hee) hr (j:=1) (by simp) (a := .int .i32 0) (v := .int .i32 0) rfl rfl
  simp only [Nat.add_zero] at hc4
  refine ⟨_,rfl,c5,.tup [],aH f2 id (de sz rest'),n2,?_,hK,?_,?_,((hs2.trans (Stp.drew c2)).trans hs4).trans hs5,hn2,fun j=>?_⟩
  ·rw [hc5,hc4]; rfl
  ·have:aH (aH f2 id (.live sz [.agg ((.int .u32 0 :: .int .i32 1::rest').set 0 (.int .u32 1))])) id (.live sz [.agg (((.int .u32 0 :: .int .i32 1::rest').set 0 (.int .u32 1)).set 1 (.int .i32 0))])=aH f2 id (de sz rest'):=by
    funext j; unfold aH; split<;>rfl
   rw [←this]; exact hk5
  ·simp only [Rv]; exact ⟨#[],rfl,by simp only [Rl]⟩
  ·by_cases hj:j=id
   ·subst hj
    rw [am,←hfr2 j,hf2]; simp [cK,de]
   ·rw [aq _ _ _ hj]; exact hfr2 j
theorem Cy {f:Nat→BS} {n id sz:Nat} {rest:List AV} {K:AV→(Nat→BS)→Nat→Prop} (hf:f id=jr sz rest)
 (hfill:CA Tryz.prog 310 [.ptr id 0 0] (aH f id (cK sz rest)) n fun r f' n'=>r = .tup []∧∃rest',f' id=cK sz rest'∧K (.tup []) (aH f' id (de sz rest')) n') :
 CA Tryz.prog 205 [.ptr id 0 0,.fn (.func 310) [.ptr id 0 0] []] f n K:=by
 refine Cg Tryz.func205 rfl [] rfl ?_
 simp -implicitDefEqProofs [go_sem]
 refine mK hf ?_
 simp -implicitDefEqProofs [go_sem]
 refine xR hf (hfill.mono ?_)
 rintro r f' n' ⟨h1,rest',h2,h3⟩
 refine ⟨h1,rest',h2,?_⟩
 simp -implicitDefEqProofs [go_sem]
 exact h3
set_option maxRecDepth 100000
theorem FH (b off:Nat) (v:Value) (w:World) (Q:World→Prop)
 (h0:w.cell? ⟨b,off,none⟩=some (.int .u32 0)) (h1:w.cell? ⟨b,off+1,none⟩=some (.int .i32 0))
 (_f0:w.frozen? ⟨b,off,none⟩=false) (f1:w.frozen? ⟨b,off+1,none⟩=false)
 (hfill:Calls Tryz.prog 244 #[v] (w.setCell ⟨b,off+1,none⟩ (.int .i32 1)) fun e w2=>e = .returned (.tuple #[]) ∧
  w2.cell? ⟨b,off,none⟩=some (.int .u32 0)∧w2.cell? ⟨b,off+1,none⟩=some (.int .i32 1)∧w2.frozen? ⟨b,off,none⟩=false∧w2.frozen? ⟨b,off+1,none⟩=false∧Q w2) :
 Calls Tryz.prog 257 #[.pointer (some ⟨b,off,none⟩),.func (.func 244) #[v] #[]] w fun e w'=>e = .returned (.tuple #[]) ∧
  ∃w2,Q w2∧w'=(w2.drew.setCell ⟨b,off,none⟩ (.int .u32 1)).setCell ⟨b,off+1,none⟩ (.int .i32 0):=by
 have hl:=tC ⟨b,off,none⟩ (w.setCell ⟨b,off+1,none⟩ (.int .i32 1)) ((World.cell?_setCell_other _ ⟨b,off+1,none⟩ ⟨b,off,none⟩ _ (by simp)).trans h0)
 have hnot:∀(x:Bool) (w:World),(Op.unary .not (.bool x)).run Tryz.prog w = .ok (.bool (!x)) w:=fun _ _=>rfl
 go_enter_defers Tryz.func257,Tryz.ntmps257
 go_wp2_with (first|(go_at_call 256; refine hl.mono ?_; rintro e w' ⟨rfl,rfl⟩)|(go_at_call 299; refine (xQ ⟨b,off+1,none⟩ _ (by go_simp) (by go_simp)).mono ?_; rintro e w' ⟨rfl,rfl⟩)|(go_at_call 244; refine hfill.mono ?_; rintro e w' ⟨rfl,g0,g1,g2,g3,gQ⟩))
 refine leaves_cons (f:=301) (args := #[.pointer (some ⟨b,off,none⟩),.bool true]) (by simp) (by simp [go_sem]) ?_
 refine (tD ⟨b,off,none⟩ (.int .u32 0) .returning _ g0 (by simp [g2])).mono ?_
 rintro e u' w'' ⟨rfl,rfl,rfl⟩
 refine leaves_cons (f:=300) (args := #[.pointer (some ⟨b,off+1,none⟩)]) (by simp [settle]) (by simp [go_sem]) ?_
 refine (p9 ⟨b,off+1,none⟩ _ _ ?_ (by simp [g3])).mono ?_
 ·refine (World.cell?_setCell_other _ ⟨b,off,none⟩ ⟨b,off+1,none⟩ _ (by simp)).trans ?_
  rw [World.cell?_drew]
  exact g1
 rintro e u' w'' ⟨rfl,rfl,rfl⟩
 simp [Leaves,settle,results,Tryz.results257]
 exact ⟨_,gQ,rfl⟩
set_option maxRecDepth 20000
theorem Ar {f:Nat→BS} {n id sz:Nat} {rest:List AV} {K:AV→(Nat→BS)→Nat→Prop} (hf:f id=jr sz rest)
 (hfill:CA Tryz.prog 244 [.ptr id 0 0] (aH f id (cK sz rest)) n fun r f' n'=>r = .tup []∧∃rest',f' id=cK sz rest'∧K (.tup []) (aH f' id (de sz rest')) n') :
 CA Tryz.prog 257 [.ptr id 0 0,.fn (.func 244) [.ptr id 0 0] []] f n K:=by
 intro c vs hk hfr hl
 simp only [Rl] at hl
 obtain ⟨v1,r1,rfl,hv1,v2,r2,rfl,hv2,rfl⟩:=hl
 obtain ⟨e,he,hsz,hnr,hreal⟩:=hk.live id sz _ hf
 have hr:e.real=true:=by
  cases h:e.real with
  | true=>rfl
  | false=>exact absurd (hnr h) (by simp)
 have hv1':=hv1
 simp only [Rv] at hv1'
 obtain ⟨hU,b,o,hv1e,hall⟩:=hv1'
 obtain ⟨_,hb,ho⟩:=hall e he
 simp only [Nat.zero_mul,Nat.add_zero] at ho
 subst hb; subst ho
 simp only [Rv] at hv2
 obtain ⟨fa,cb,rfl,h1,h2⟩:=hv2
 simp only [Rl] at h1 h2
 obtain ⟨v3,r3,h3,hv3,rfl⟩:=h1
 have hv3e:v3=v1:=by
  simp only [Rv] at hv3
  obtain ⟨_,b,o,g1,g2⟩:=hv3
  obtain ⟨_,hb,ho⟩:=g2 e he
  simp only [Nat.zero_mul,Nat.add_zero] at ho
  rw [g1,hv1e,hb,ho]
 have hfa:fa = #[v1]:=by
  apply Array.toList_inj.1; rw [h3,hv3e]
 have hcb:cb = #[]:=Array.toList_inj.1 h2
 subst hfa; subst hcb
 refine eK Tryz.func257 rfl (by kernel_rfl) ?_
 obtain ⟨p0,p1⟩:=oT hk hf he hr (j:=0) (k := .u32) (n:=0) rfl
 obtain ⟨p2,p3⟩:=oT hk hf he hr (j:=1) (k := .i32) (n:=0) rfl
 simp only [Nat.add_zero] at p0 p1
 obtain ⟨c1,hc1,hk1,hs1,hm1⟩:=ux hk hf he hr (j:=1) (by simp) (a := .int .i32 1) (v := .int .i32 1) rfl rfl
 have hk1':HOk c1 (aH f id (cK sz rest)):=hk1
 have hfr1:∀j,aH f id (cK sz rest) j = .fresh↔n≤j:=fun j=>by
  by_cases hj:j=id
  ·subst hj
   rw [am,←hfr j,hf]; simp [cK,jr]
  ·rw [aq _ _ _ hj]; exact hfr j
 have hcall:=hfill c1 [v1] hk1' hfr1 (by simp only [Rl]; exact ⟨v1,[],rfl,hv1.keep hs1 hk.shut,rfl⟩)
 rw [hc1] at hcall
 have hcalls:=wU Tryz.func244 rfl (by kernel_rfl) hcall
 rw [hv1e]
 rw [hv1e] at hcalls
 refine (FH e.block e.base _ c.w (fun w2=>∃(c2:Cx) (f2:Nat→BS) (n2:Nat) (rest':List AV),c2.w=w2∧HOk c2 f2∧Stp c c2∧c2.mu id=some e∧f2 id=cK sz rest'∧K (.tup []) (aH f2 id (de sz rest')) n2∧n≤n2∧∀j,f2 j = .fresh↔n2≤j) p0 p2 p1 p3 (hcalls.mono ?_)).mono ?_
 ·rintro e' w' ⟨v,rfl,c2,r,f2,n2,rfl,⟨rfl,rest',hf2,hK⟩,hk2,hrv,hs2,hn2,hfr2⟩
  obtain ⟨e2,he2,_⟩:=hk2.live id sz _ hf2
  have hee:c2.mu id=some e:=by
   rcases hs2.mu id (hs1.U _ hU) with h|h
   ·rw [h,hm1]; exact he
   ·rw [h] at he2; cases he2
  obtain ⟨s0,s1⟩:=oT hk2 hf2 hee hr (j:=0) (k := .u32) (n:=0) rfl
  obtain ⟨s2,s3⟩:=oT hk2 hf2 hee hr (j:=1) (k := .i32) (n:=1) rfl
  simp only [Nat.add_zero] at s0 s1
  simp only [Rv] at hrv
  obtain ⟨us,rfl,hus⟩:=hrv
  simp only [Rl] at hus
  have:us = #[]:=Array.toList_inj.1 hus
  subst this
  exact ⟨rfl,s0,s2,s1,s3,c2,f2,n2,rest',rfl,hk2,hs1.trans hs2,hee,hf2,hK,hn2,hfr2⟩
 ·rintro e' w' ⟨rfl,w2,⟨c2,f2,n2,rest',rfl,hk2,hs2,hee,hf2,hK,hn2,hfr2⟩,rfl⟩
  obtain ⟨c4,hc4,hk4,hs4,hm4⟩:=ux hk2.drew hf2 hee hr (j:=0) (by simp) (a := .int .u32 1) (v := .int .u32 1) rfl rfl
  obtain ⟨c5,hc5,hk5,hs5,hm5⟩:=ux hk4 (am _ _ _) (by rw [hm4]; exact hee) hr (j:=1) (by simp) (a := .int .i32 0) (v := .int .i32 0) rfl rfl
  simp only [Nat.add_zero] at hc4
  refine ⟨_,rfl,c5,.tup [],aH f2 id (de sz rest'),n2,?_,hK,?_,?_,((hs2.trans (Stp.drew c2)).trans hs4).trans hs5,hn2,fun j=>?_⟩
  ·rw [hc5,hc4]; rfl
  ·have:aH (aH f2 id (.live sz [.agg ((.int .u32 0 :: .int .i32 1::rest').set 0 (.int .u32 1))])) id (.live sz [.agg (((.int .u32 0 :: .int .i32 1::rest').set 0 (.int .u32 1)).set 1 (.int .i32 0))])=aH f2 id (de sz rest'):=by
    funext j; unfold aH; split<;>rfl
   rw [←this]; exact hk5
  ·simp only [Rv]; exact ⟨#[],rfl,by simp only [Rl]⟩
  ·by_cases hj:j=id
   ·subst hj
    rw [am,←hfr2 j,hf2]; simp [cK,de]
   ·rw [aq _ _ _ hj]; exact hfr2 j
theorem p_ {f:Nat→BS} {n id sz:Nat} {rest:List AV} {K:AV→(Nat→BS)→Nat→Prop} (hf:f id=jr sz rest)
 (hfill:CA Tryz.prog 244 [.ptr id 0 0] (aH f id (cK sz rest)) n fun r f' n'=>r = .tup []∧∃rest',f' id=cK sz rest'∧K (.tup []) (aH f' id (de sz rest')) n') :
 CA Tryz.prog 205 [.ptr id 0 0,.fn (.func 244) [.ptr id 0 0] []] f n K:=by
 refine Cg Tryz.func205 rfl [] rfl ?_
 simp -implicitDefEqProofs [go_sem]
 refine mK hf ?_
 simp -implicitDefEqProofs [go_sem]
 refine Ar hf (hfill.mono ?_)
 rintro r f' n' ⟨h1,rest',h2,h3⟩
 refine ⟨h1,rest',h2,?_⟩
 simp -implicitDefEqProofs [go_sem]
 exact h3
theorem dG (l:List Nat) (hl:dj l):ag Tryz.prog 153 [mA l] (mA (a_ l)):=by
 unfold dj at hl
 refine Pg Tryz.func153 rfl [.tmp 2] rfl (K1 _) ?_
 simp -implicitDefEqProofs [go_sem]
 refine ap 9 (α:={k:Nat // k≤l.length∧a_ (l.take k)=a_ l}) (fun k=>[(0,mA l),(3,.int .i64 k.1)]) (fun k=>[]) (fun k=>k.1) ⟨l.length,by simp⟩ [] (by simp) (by simp) (by simp) (by simp -implicitDefEqProofs [go_sem]) (by simp) fun ⟨k,hk1,hk2⟩=>?_
 have e1:0<k→IntKind.i64.wrap ((k:Int)-1)=(k-1:Nat):=fun h=>by rw [bS (by omega)]; omega
 rcases Nat.eq_zero_or_pos k with h|h
 ·subst h
  have hz:a_ l=[]:=by rw [←hk2]; rfl
  simp -implicitDefEqProofs [go_sem,hz]
 ·have hg:=bw .u32 (l:=l) (i:=k-1) (by omega)
  have hk:k-1<l.length:=by omega
  simp -implicitDefEqProofs [go_sem,e1 h,hg,h]
  refine ⟨by omega,fun h0=>?_,fun h0=>?_⟩
  ·have ht:a_ (l.take (k-1))=a_ l:=by
    have:=qn hk (by simpa using h0)
    rw [show k-1+1=k by omega] at this
    rw [←this,hk2]
   refine ae ⟨k-1,by omega,ht⟩ (by simp only; omega) [] (by simp) (by simp) (by simp) (by simp -implicitDefEqProofs [go_sem]) (by simp)
  ·have:=qm hk (by simpa using h0)
   rw [show k-1+1=k by omega] at this
   refine ⟨hk1,by rw [mS,←this,hk2],by rw [mS]; simp -implicitDefEqProofs [go_sem]⟩
theorem B8 {z:Bool} {ne:Nat} {Q:AEx→St→Prop} {k:List Itm} {t:Nat→AV} {f:Nat→BS} {n:Nat} {g:FuncId} {d:Option Tmp} {id:Nat} {kd:IntKind} {l:List Nat} {r:AV} (hp:ag Tryz.prog g [.sl 1 false (uA kd l)] r) (hf:l≠[]→f id = .live 1 (uA kd l)) (h:∀f',go Tryz.prog z ne Q k (aX t d r) f' n):Bo Tryz.prog z ne Q g [di 1 id (uA kd l)] d k t f n:=by
 by_cases hl:l=[]
 ·subst hl
  exact ah _ (hp.args (.cons (Wk.nil 0 1 true) .nil)) (by simp -implicitDefEqProofs [go_sem]) (h _)
 ·have hne:uA kd l≠[]:=by simpa [uA] using hl
  rw [aV hne]
  refine cq [id] _ hp (by simp -implicitDefEqProofs [go_sem,hf hl,dS]) (by simp -implicitDefEqProofs [go_sem]) (by simp -implicitDefEqProofs [go_sem,hf hl]) (by simp -implicitDefEqProofs [go_sem,hf hl]) (h _)
def qA (n:Nat):AV:=mA (ax 4294967296 n)
@[go_sem] theorem eZ (n:Nat):ro (qA n):=K1 _
theorem jh (a b:Nat) (ha:dj (ax 4294967296 a)) (hb:dj (ax 4294967296 b)):ag Tryz.prog 217 [qA a,qA b] (.int .i64 (cA a b)):=by
 unfold dj at ha hb
 have hva:=aA (B:=4294967296) (by omega) a
 have hvb:=aA (B:=4294967296) (by omega) b
 have hla:=ay (B:=4294967296) (by omega) a
 have hlb:=ay (B:=4294967296) (by omega) b
 have hlt:=fI (B:=4294967296) (by omega) hla (n:=b)
 have hgt:=fI (B:=4294967296) (by omega) hlb (n:=a)
 unfold qA
 generalize ax 4294967296 a=x at *
 generalize ax 4294967296 b=y at *
 refine Pg Tryz.func217 rfl [.tmp 4] rfl (by simp -implicitDefEqProofs [go_sem]) ?_
 simp -implicitDefEqProofs [go_sem]
 refine ⟨fun hne=>⟨fun h=>?_,fun h=>?_⟩,fun heq=>?_⟩
 ·rw [eN]; have:=hlt h; omega
 ·rw [dI]; have:=hgt (by omega); omega
 ·rw [bS (by omega)]
  refine ap 9 (α:={i:Nat // i≤x.length∧x.drop i=y.drop i}) (fun i=>[(0,mA x),(1,mA y),(5,.int .i64 ((i.1:Int)-1))]) (fun i=>[]) (fun i=>i.1) ⟨x.length,by simp; omega⟩ [] (by simp) (by simp) (by simp) (by simp -implicitDefEqProofs [go_sem]) (by simp) fun ⟨i,hi,hd⟩=>?_
  simp -implicitDefEqProofs [go_sem]
  refine ⟨fun h=>?_,fun h=>?_⟩
  ·obtain ⟨k,hk⟩:∃k,k=i-1:=⟨_,rfl⟩
   have hik:i=k+1:=by omega
   subst hik
   have e1:(((k+1:Nat):Int)-1)=(k:Nat):=by omega
   have g1:=bw .u32 (l:=x) (i:=k) (by omega)
   have g2:=bw .u32 (l:=y) (i:=k) (by omega)
   have l1:=oN (B:=4294967296) hla (x:=x) (y:=y) (k:=k) (by omega) (by omega) hd
   have l2:=oN (B:=4294967296) hlb (x:=y) (y:=x) (k:=k) (by omega) (by omega) hd.symm
   rw [hva,hvb] at l1 l2
   have hkx:k<x.length:=by omega
   have hky:k<y.length:=by omega
   have hdd:x.getD k 0=y.getD k 0→x.drop k=y.drop k:=fun e=>by
    rw [List.drop_eq_getElem_cons hkx,List.drop_eq_getElem_cons hky,hd]
    congr 1
    rw [List.getD_eq_getElem?_getD,List.getD_eq_getElem?_getD,List.getElem?_eq_getElem hkx,List.getElem?_eq_getElem hky] at e
    exact e
   generalize x.getD k 0=u at *
   generalize y.getD k 0=w at *
   simp -implicitDefEqProofs [go_sem,e1,g1,g2]
   refine ⟨⟨by omega,hkx⟩,hky,fun hne=>⟨hkx,hky,fun h=>?_,fun h=>?_⟩,fun he=>?_⟩
   ·rw [eN]; have:=l1 h; omega
   ·rw [dI]; have:=l2 (by omega); omega
   ·rw [bS (by omega)]
    exact ae ⟨k,by omega,hdd (by omega)⟩ (by simp only; omega) [] (by simp) (by simp) (by simp) (by simp -implicitDefEqProofs [go_sem]) (by simp)
  ·have:i=0:=by omega
   subst this
   simp only [List.drop_zero] at hd
   rw [show a=b by rw [←hva,←hvb,hd],is]
theorem D6 (i:Nat):4294967296 ^ (2*i)=18446744073709551616 ^ i:=by
 rw [Nat.pow_mul]
theorem rj (x:Nat):IntKind.u32.wrap (x:Int)=(x%4294967296:Nat):=by
 simp only [IntKind.wrap,IntKind.bits,IntKind.signed]
 simp only [Bool.false_and,Bool.false_eq_true,if_false]
 omega
theorem yf (x:Nat):(x:Int).fdiv 4294967296=(x / 4294967296:Nat):=by
 have:=tR x 32
 rw [show (2:Int) ^ 32=4294967296 by rfl] at this
 rw [this]
@[go_sem] theorem Of (sz id:Nat) (l:List AV) (x y:AV):di sz id (l++[x,y]) = .own sz id 0 (l.length+2):=by simp [di]
@[go_sem] theorem Oe (sz id:Nat) (l:List AV) (x y:AV):cR sz id (l++[x,y])=[(id,.live sz (l++[x,y]))]:=by simp [cR]
theorem xE (a:List Nat) (ha:cg a) (la:bZ 18446744073709551616 a):ag Tryz.prog 74 [nA a] (qA (lv 18446744073709551616 a)):=by
 unfold cg at ha
 refine Pg Tryz.func74 rfl [.tmp 2] rfl (eZ _) ?_
 simp -implicitDefEqProofs [go_sem]
 refine ap 9 (α:={p:List Nat×Nat // p.2≤a.length∧p.1.length=2*p.2∧bZ 4294967296 p.1∧lv 4294967296 p.1=lv 18446744073709551616 (a.take p.2)}) (fun p=>[(0,nA a),(3,di 1 8 (uA .u32 p.1.1)),(4,.int .i64 p.1.2)]) (fun p=>cR 1 8 (uA .u32 p.1.1)) (fun p=>a.length-p.1.2) ⟨([],0),by simp [fu]⟩ [] (by simp) (by simp [go_sem]) (by simp) (by simp -implicitDefEqProofs [go_sem]) (by simp [go_sem]) fun ⟨⟨out,i⟩,h1,h2,h3,h4⟩=>?_
 simp only at h1 h2 h3 h4
 simp -implicitDefEqProofs [go_sem]
 refine ⟨fun h=>?_,fun h=>?_⟩
 ·have hg:=bw .u64 (l:=a) (i:=i) (by omega)
  have hx:=la.getD (by omega) i
  have t1:=aR 18446744073709551616 a i
  obtain ⟨x,hxe⟩:∃x,x=a.getD i 0:=⟨_,rfl⟩
  rw [←hxe] at hg hx t1
  have e3:IntKind.i64.wrap ((i:Int)+1)=((i+1:Nat):Int):=by rw [bS (by omega)]; omega
  have w1:=rj x
  have w2:=rj (x / 4294967296)
  obtain ⟨lo,hlo⟩:∃j,j=x%4294967296:=⟨_,rfl⟩
  obtain ⟨hi,hhi⟩:∃j,j=x / 4294967296:=⟨_,rfl⟩
  have s1:=yf x
  rw [←hhi] at w2 s1
  rw [Nat.mod_eq_of_lt (by omega)] at w2
  rw [←hlo] at w1
  simp -implicitDefEqProofs [go_sem,hg,w1,w2,s1]
  refine ⟨h,aI (by simp [go_sem]) (by omega) (by omega) (by simp [go_sem]) (by simp; omega) (fun hne=>by simp [go_sem,hne]) ?_⟩
  simp -implicitDefEqProofs [go_sem,e3]
  refine ae ⟨(out++[lo,hi],i+1),Nat.succ_le_of_lt h,by simp [h2]; omega,bE.2 ⟨h3,fun z hz=>by simp at hz; omega⟩,?_⟩ (by simp only; omega) [(8,22)] (by simp) (by simp [go_sem,bo]) (by simp) (by simp -implicitDefEqProofs [go_sem,bo]) (by simp -implicitDefEqProofs [go_sem,bo])
  simp only
  rw [ce,h2,D6,t1,h4]
  simp only [cD,eD,Nat.mul_zero,Nat.add_zero]
  rw [show lo+4294967296*hi=x by omega]
 ·have e:i=a.length:=by omega
  rw [e,List.take_length] at h4
  refine B8 (kd := .u32) (dG out (by unfold dj; omega)) (fun hne=>by simp -implicitDefEqProofs [go_sem,uA,hne]) fun f'=>?_
  rw [aT (by omega) h3,h4]
  simp -implicitDefEqProofs [go_sem,qA]
theorem fJ (v:Nat) (h:v<18446744073709551616):ag Tryz.prog 75 [.int .u64 v] (qA v):=by
 refine Pg Tryz.func75 rfl [.tmp 2] rfl (eZ _) ?_
 have hin:=xE [v] (by unfold cg; simp) (fun z hz=>by simp at hz; omega)
 rw [show lv 18446744073709551616 [v]=v by simp] at hin
 simp -implicitDefEqProofs [go_sem]
 refine cq [0] _ hin (by simp -implicitDefEqProofs [go_sem]) (by simp -implicitDefEqProofs [go_sem]) (by simp -implicitDefEqProofs [go_sem]) (by simp -implicitDefEqProofs [go_sem]) ?_
 simp -implicitDefEqProofs [go_sem,qA]
theorem xq {l:List Nat} {i:Nat} (h:l.length≤i):l.getD i 0=0:=by
 rw [List.getD_eq_getElem?_getD,List.getElem?_eq_none h]; rfl
theorem rS (A V:Nat) (ha:cg (ax 4294967296 A)) (hb:cg (ax 4294967296 V)):ag Tryz.prog 297 [qA A,qA V] (qA (A+V)):=by
 unfold cg at ha hb
 have hva:=aA (B:=4294967296) (by omega) A
 have hvb:=aA (B:=4294967296) (by omega) V
 have la:=ay (B:=4294967296) (by omega) A
 have lb:=ay (B:=4294967296) (by omega) V
 refine Pg Tryz.func297 rfl [.tmp 4] rfl (eZ _) ?_
 unfold qA
 rw [←hva,←hvb]
 rw [hva,hvb]
 generalize ax 4294967296 A=a at *
 generalize ax 4294967296 V=b at *
 obtain ⟨m,hm⟩:∃m:Nat,m=max a.length b.length:=⟨_,rfl⟩
 have em:(if a.length<b.length then (b.length:Int) else a.length)=(m:Nat):=by split<;>omega
 have em1:IntKind.i64.wrap ((m:Int)+1)=(m:Int)+1:=bS (by omega)
 simp -implicitDefEqProofs [go_sem,em,em1]
 refine ⟨by omega,?_⟩
 refine ap 9 (α:={p:List Nat×Nat // (p.1.length≤m∨(p.1.length=m+1∧p.2=0))∧p.2≤1∧bZ 4294967296 p.1∧lv 4294967296 p.1+4294967296 ^ p.1.length*p.2=lv 4294967296 (a.take p.1.length)+lv 4294967296 (b.take p.1.length)}) (fun p=>[(0,mA a),(1,mA b),(5,.own 1 0 0 p.1.1.length),(6,.int .u64 p.1.2),(7,.int .i64 p.1.1.length)]) (fun p=>[(0,.live 1 (uA .u32 p.1.1))]) (fun p=>m+1-p.1.1.length) ⟨([],0),by simp [fu]⟩ [] (by simp) (by simp) (by simp) (by simp -implicitDefEqProofs [go_sem]) (by simp -implicitDefEqProofs [go_sem]) fun ⟨⟨out,c⟩,h1,h2,h3,h4⟩=>?_
 simp only at h1 h2 h3 h4
 obtain ⟨i,hi⟩:∃i,i=out.length:=⟨_,rfl⟩
 have hx:=la.getD (by omega) i
 have hy:=lb.getD (by omega) i
 have t1:=aR 4294967296 a i
 have t2:=aR 4294967296 b i
 have ga:=fun h=>bw .u32 (l:=a) (i:=i) h
 have gb:=fun h=>bw .u32 (l:=b) (i:=i) h
 have za:=fun h=>xq (l:=a) (i:=i) h
 have zb:=fun h=>xq (l:=b) (i:=i) h
 obtain ⟨x,hxe⟩:∃x,x=a.getD i 0:=⟨_,rfl⟩
 obtain ⟨y,hye⟩:∃y,y=b.getD i 0:=⟨_,rfl⟩
 rw [←hxe] at hx t1 ga za
 rw [←hye] at hy t2 gb zb
 have wx:IntKind.u64.wrap (x:Int)=x:=cI (by omega)
 have wy:IntKind.u64.wrap (y:Int)=y:=cI (by omega)
 obtain ⟨cx,hcx⟩:∃q,q=c+x:=⟨_,rfl⟩
 have wcx:IntKind.u64.wrap ((c:Int)+x)=(cx:Nat):=by rw [cI (by omega)]; omega
 obtain ⟨v,hv⟩:∃q,q=cx+y:=⟨_,rfl⟩
 have wv:IntKind.u64.wrap ((cx:Int)+y)=(v:Nat):=by rw [cI (by omega)]; omega
 have wv2:x=0→IntKind.u64.wrap ((c:Int)+y)=(v:Nat):=fun h=>by rw [cI (by omega)]; omega
 have w1:=rj v
 have s1:=yf v
 have hdm:=Nat.mod_add_div v 4294967296
 have hlo:v%4294967296<4294967296:=Nat.mod_lt _ (by omega)
 obtain ⟨lo,hlo2⟩:∃j,j=v%4294967296:=⟨_,rfl⟩
 obtain ⟨c2,hc2⟩:∃j,j=v / 4294967296:=⟨_,rfl⟩
 rw [←hlo2] at w1 hdm hlo
 rw [←hc2] at s1 hdm
 have es:=wS i (by omega)
 have hcont:i<m∨0<c→m+1-(i+1)<m+1-i∧(i+1≤m∨(i+1=m+1∧c2=0)):=fun h=>by
  refine ⟨by omega,?_⟩
  rcases Nat.lt_or_ge i m with h5|h5
  ·omega
  ·right
   have:=za (by omega); have:=zb (by omega)
   omega
 have hinv:lv 4294967296 (out++[lo])+4294967296 ^ (i+1)*c2=lv 4294967296 (a.take (i+1))+lv 4294967296 (b.take (i+1)):=by
  rw [gr,t1,t2,←hi,Nat.pow_succ]
  rw [←hi] at h4
  have h7:4294967296 ^ i*(lo+4294967296*c2)=4294967296 ^ i*(c+x+y):=by rw [hdm,hv,hcx]
  simp only [Nat.mul_add,←Nat.mul_assoc] at h7 h4 ⊢
  omega
 rw [←hi] at h1 h4
 by_cases hgo:i<m∨0<c
 ·obtain ⟨hc3,hc4⟩:=hcont hgo
  have hc2':c2≤1:=by omega
  have hag:(out++[lo]).length=i+1:=by simp [hi]
  have hlo3:bZ 4294967296 (out++[lo]):=bE.2 ⟨h3,by simpa [bZ] using hlo⟩
  have htk:(uA .u32 out).take i=uA .u32 out:=by rw [hi]; exact dS _ _
  by_cases ia:i<a.length
  ·have ga:=ga ia
   have im:i<m:=by omega
   by_cases ib:i<b.length
   ·have gb:=gb ib
    simp -implicitDefEqProofs [go_sem,←hi,em,ia,ib,im,ga,gb,wx,wy,wcx,wv,w1,s1,htk,es]
    refine ⟨by omega,ae ⟨(out++[lo],c2),by simp only [hag]; exact hc4,hc2',hlo3,by simp only [hag]; exact hinv⟩ (by simp only [hag,←hi]; exact hc3) [(0,10)] (by simp) (by simp) (by simp) (by simp -implicitDefEqProofs [go_sem,←hi]) (by simp -implicitDefEqProofs [go_sem,bo])⟩
   ·have hy0:=zb (by omega)
    have hvx:v=cx:=by omega
    rw [hvx] at w1 s1
    simp -implicitDefEqProofs [go_sem,←hi,em,ia,ib,im,ga,wx,wcx,w1,s1,htk,es]
    refine ⟨by omega,ae ⟨(out++[lo],c2),by simp only [hag]; exact hc4,hc2',hlo3,by simp only [hag]; exact hinv⟩ (by simp only [hag,←hi]; exact hc3) [(0,10)] (by simp) (by simp) (by simp) (by simp -implicitDefEqProofs [go_sem,←hi]) (by simp -implicitDefEqProofs [go_sem,bo])⟩
  ·have hx0:=za (by omega)
   by_cases ib:i<b.length
   ·have gb:=gb ib
    have im:i<m:=by omega
    have wv2:=wv2 hx0
    simp -implicitDefEqProofs [go_sem,←hi,em,ia,ib,im,gb,wy,wv2,w1,s1,htk,es]
    refine ⟨by omega,ae ⟨(out++[lo],c2),by simp only [hag]; exact hc4,hc2',hlo3,by simp only [hag]; exact hinv⟩ (by simp only [hag,←hi]; exact hc3) [(0,10)] (by simp) (by simp) (by simp) (by simp -implicitDefEqProofs [go_sem,←hi]) (by simp -implicitDefEqProofs [go_sem,bo])⟩
   ·have hy0:=zb (by omega)
    have im:¬i<m:=by omega
    have c0:0<c:=by omega
    have hvc:v=c:=by omega
    rw [hvc] at w1 s1
    simp -implicitDefEqProofs [go_sem,←hi,em,ia,ib,im,c0,w1,s1,htk,es]
    refine ⟨by omega,ae ⟨(out++[lo],c2),by simp only [hag]; exact hc4,hc2',hlo3,by simp only [hag]; exact hinv⟩ (by simp only [hag,←hi]; exact hc3) [(0,10)] (by simp) (by simp) (by simp) (by simp -implicitDefEqProofs [go_sem,←hi]) (by simp -implicitDefEqProofs [go_sem,bo])⟩
 ·have im:¬i<m:=by omega
  have c0:c=0:=by omega
  rw [c0,Nat.mul_zero,Nat.add_zero,List.take_of_length_le (by omega),List.take_of_length_le (by omega),hva,hvb] at h4
  simp -implicitDefEqProofs [go_sem,←hi,em,im,c0]
  refine cq [0] _ (dG out (by unfold dj; omega)) (by simp -implicitDefEqProofs [go_sem,hi,dS]) (by simp -implicitDefEqProofs [go_sem]) (by simp -implicitDefEqProofs [go_sem,hi]) (by simp -implicitDefEqProofs [go_sem]) ?_
  rw [aT (by omega) h3,h4]
  simp -implicitDefEqProofs [go_sem]
theorem nV (A V:Nat) (ha:cg (ax 4294967296 A)) (hb:cg (ax 4294967296 V)) (hAV:V≤A):ag Tryz.prog 220 [qA A,qA V] (qA (A-V)):=by
 unfold cg at ha hb
 have hva:=aA (B:=4294967296) (by omega) A
 have hvb:=aA (B:=4294967296) (by omega) V
 have la:=ay (B:=4294967296) (by omega) A
 have lb:=ay (B:=4294967296) (by omega) V
 have hlen:(ax 4294967296 V).length≤(ax 4294967296 A).length:=by
  rcases Nat.lt_or_ge (ax 4294967296 A).length (ax 4294967296 V).length with h|h
  ·exfalso
   have:=fI (B:=4294967296) (by omega) la (n:=V) h
   omega
  ·exact h
 refine Pg Tryz.func220 rfl [.tmp 4] rfl (eZ _) ?_
 unfold qA
 generalize ax 4294967296 A=a at *
 generalize ax 4294967296 V=b at *
 simp -implicitDefEqProofs [go_sem]
 refine ⟨by omega,?_⟩
 refine ap 9 (α:={p:List Nat×Nat // p.1.length≤a.length∧p.2≤1∧bZ 4294967296 p.1∧lv 4294967296 p.1+lv 4294967296 (b.take p.1.length)=lv 4294967296 (a.take p.1.length)+4294967296 ^ p.1.length*p.2}) (fun p=>[(0,mA a),(1,mA b),(5,.own 1 0 0 p.1.1.length),(6,.int .u64 p.1.2),(7,.int .i64 p.1.1.length)]) (fun p=>[(0,.live 1 (uA .u32 p.1.1))]) (fun p=>a.length-p.1.1.length) ⟨([],0),by simp [fu]⟩ [] (by simp) (by simp) (by simp) (by simp -implicitDefEqProofs [go_sem]) (by simp -implicitDefEqProofs [go_sem]) fun ⟨⟨out,c⟩,h1,h2,h3,h4⟩=>?_
 simp only at h1 h2 h3 h4
 obtain ⟨i,hi⟩:∃i,i=out.length:=⟨_,rfl⟩
 rw [←hi] at h1 h4
 by_cases hgo:i<a.length
 ·have hx:=la.getD (by omega) i
  have hy:=lb.getD (by omega) i
  have t1:=aR 4294967296 a i
  have t2:=aR 4294967296 b i
  have ga:=bw .u32 (l:=a) (i:=i) hgo
  have gb:=fun h=>bw .u32 (l:=b) (i:=i) h
  have zb:=fun h=>xq (l:=b) (i:=i) h
  obtain ⟨x,hxe⟩:∃x,x=a.getD i 0:=⟨_,rfl⟩
  obtain ⟨y,hye⟩:∃y,y=b.getD i 0:=⟨_,rfl⟩
  rw [←hxe] at hx t1 ga
  rw [←hye] at hy t2 gb zb
  have wx:IntKind.u64.wrap (x:Int)=x:=cI (by omega)
  have wy:IntKind.u64.wrap (y:Int)=y:=cI (by omega)
  obtain ⟨v,hv⟩:∃q,q=c+y:=⟨_,rfl⟩
  have wv:IntKind.u64.wrap ((c:Int)+y)=(v:Nat):=by rw [cI (by omega)]; omega
  obtain ⟨x2,hx2⟩:∃q,q=x+4294967296:=⟨_,rfl⟩
  have wx2:IntKind.u64.wrap ((x:Int)+4294967296)=(x2:Nat):=by rw [cI (by omega)]; omega
  have htk:(uA .u32 out).take i=uA .u32 out:=by rw [hi]; exact dS _ _
  have es:=wS i (by omega)
  obtain ⟨lo,c2,hc2,hlo,hsum,hlow,hhigh⟩:∃lo c2:Nat,c2≤1∧lo<4294967296∧lo+c+y=x+4294967296*c2∧(x<v→c2=1∧IntKind.u32.wrap (IntKind.u64.wrap ((x2:Int)-v))=(lo:Nat))∧(¬x<v→c2=0∧IntKind.u32.wrap (IntKind.u64.wrap ((x:Int)-v))=(lo:Nat)):=by
   by_cases hxv:x<v
   ·refine ⟨x2-v,1,by omega,by omega,by omega,fun _=>⟨rfl,?_⟩,fun h=>absurd hxv h⟩
    rw [cI (by omega),show ((x2:Int)-v)=(x2-v:Nat) by omega,rj,Nat.mod_eq_of_lt (by omega)]
   ·refine ⟨x-v,0,by omega,by omega,by omega,fun h=>absurd h hxv,fun _=>⟨rfl,?_⟩⟩
    rw [cI (by omega),show ((x:Int)-v)=(x-v:Nat) by omega,rj,Nat.mod_eq_of_lt (by omega)]
  have hag:(out++[lo]).length=i+1:=by simp [hi]
  have hlo3:bZ 4294967296 (out++[lo]):=bE.2 ⟨h3,by simpa [bZ] using hlo⟩
  have hinv:lv 4294967296 (out++[lo])+lv 4294967296 (b.take (i+1))=lv 4294967296 (a.take (i+1))+4294967296 ^ (i+1)*c2:=by
   rw [gr,t1,t2,←hi,Nat.pow_succ]
   have h7:4294967296 ^ i*(lo+c+y)=4294967296 ^ i*(x+4294967296*c2):=by rw [hsum]
   simp only [Nat.mul_add,←Nat.mul_assoc] at h7 h4 ⊢
   omega
  by_cases ib:i<b.length
  ·have gb:=gb ib
   by_cases hxv:x<v
   ·obtain ⟨e1,e2⟩:=hlow hxv
    subst e1
    simp -implicitDefEqProofs [go_sem,←hi,hgo,ib,ga,gb,wx,wy,wv,hxv,wx2,e2,htk,es]
    refine ⟨by omega,ae ⟨(out++[lo],1),by simp only [hag]; omega,hc2,hlo3,by simp only [hag]; exact hinv⟩ (by simp only [hag,←hi]; omega) [(0,10)] (by simp) (by simp) (by simp) (by simp -implicitDefEqProofs [go_sem,←hi]) (by simp -implicitDefEqProofs [go_sem,bo])⟩
   ·obtain ⟨e1,e2⟩:=hhigh hxv
    subst e1
    simp -implicitDefEqProofs [go_sem,←hi,hgo,ib,ga,gb,wx,wy,wv,hxv,e2,htk,es]
    refine ⟨by omega,ae ⟨(out++[lo],0),by simp only [hag]; omega,hc2,hlo3,by simp only [hag]; exact hinv⟩ (by simp only [hag,←hi]; omega) [(0,10)] (by simp) (by simp) (by simp) (by simp -implicitDefEqProofs [go_sem,←hi]) (by simp -implicitDefEqProofs [go_sem,bo])⟩
  ·have hy0:=zb (by omega)
   have hvc:v=c:=by omega
   rw [hvc] at hlow hhigh
   by_cases hxv:x<c
   ·obtain ⟨e1,e2⟩:=hlow hxv
    subst e1
    simp -implicitDefEqProofs [go_sem,←hi,hgo,ib,ga,wx,hxv,wx2,e2,htk,es]
    refine ⟨by omega,ae ⟨(out++[lo],1),by simp only [hag]; omega,hc2,hlo3,by simp only [hag]; exact hinv⟩ (by simp only [hag,←hi]; omega) [(0,10)] (by simp) (by simp) (by simp) (by simp -implicitDefEqProofs [go_sem,←hi]) (by simp -implicitDefEqProofs [go_sem,bo])⟩
   ·obtain ⟨e1,e2⟩:=hhigh hxv
    subst e1
    simp -implicitDefEqProofs [go_sem,←hi,hgo,ib,ga,wx,hxv,e2,htk,es]
    refine ⟨by omega,ae ⟨(out++[lo],0),by simp only [hag]; omega,hc2,hlo3,by simp only [hag]; exact hinv⟩ (by simp only [hag,←hi]; omega) [(0,10)] (by simp) (by simp) (by simp) (by simp -implicitDefEqProofs [go_sem,←hi]) (by simp -implicitDefEqProofs [go_sem,bo])⟩
 ·have e:i=a.length:=by omega
  rw [e,List.take_length,List.take_of_length_le (by omega),hva,hvb] at h4
  have hlo:=cN h3
  rw [←hi,e] at hlo
  have hA:=cN la
  rw [hva] at hA
  have hc0:c=0:=by
   rcases Nat.eq_zero_or_pos c with h6|h6
   ·exact h6
   ·rw [show c=1 by omega] at h4; omega
  rw [hc0,Nat.mul_zero,Nat.add_zero] at h4
  simp -implicitDefEqProofs [go_sem,←hi,hgo]
  refine cq [0] _ (dG out (by unfold dj; omega)) (by simp -implicitDefEqProofs [go_sem,hi,dS]) (by simp -implicitDefEqProofs [go_sem]) (by simp -implicitDefEqProofs [go_sem,hi]) (by simp -implicitDefEqProofs [go_sem]) ?_
  rw [aT (by omega) h3,show lv 4294967296 out=A-V by omega]
  simp -implicitDefEqProofs [go_sem]
theorem fE (A V:Nat) (ha:cg (ax 4294967296 A)) (hb:cg (ax 4294967296 V)):ag Tryz.prog 200 [qA A,qA V] (qA (A*V)):=by
 unfold cg at ha hb
 have hva:=aA (B:=4294967296) (by omega) A
 have hvb:=aA (B:=4294967296) (by omega) V
 have la:=ay (B:=4294967296) (by omega) A
 have lb:=ay (B:=4294967296) (by omega) V
 refine Pg Tryz.func200 rfl [.tmp 4] rfl (eZ _) ?_
 unfold qA
 generalize ax 4294967296 A=a at *
 generalize ax 4294967296 V=b at *
 obtain ⟨m,hm⟩:∃m,m=a.length+b.length:=⟨_,rfl⟩
 have e0:IntKind.i64.wrap ((a.length:Int)+b.length)=(m:Nat):=by rw [bS (by omega)]; omega
 simp -implicitDefEqProofs [go_sem,e0]
 refine ⟨by omega,?_⟩
 rw [jU]
 refine ap 9 (α:={p:List Nat×Nat // p.1.length=m∧p.2≤a.length∧bZ 4294967296 p.1∧lv 4294967296 p.1=lv 4294967296 (a.take p.2)*lv 4294967296 b∧∀j,p.2+b.length≤j→p.1.getD j 0=0}) (fun p=>[(0,mA a),(1,mA b),(5,.own 1 0 0 m),(6,.int .i64 p.1.2)]) (fun p=>[(0,.live 1 (uA .u32 p.1.1))]) (fun p=>a.length-p.1.2) ⟨(List.replicate m 0,0),by simp,by simp,fun x hx=>by rw [(List.mem_replicate.1 hx).2]; decide,by simp [to],fun j _=>by simp [List.getElem?_replicate]; split<;>rfl⟩ [] (by simp) (by simp) (by simp) (by simp -implicitDefEqProofs [go_sem]) (by simp -implicitDefEqProofs [go_sem]) fun ⟨⟨out,i⟩,h1,h2,h3,h4,h5⟩=>?_
 simp only at h1 h2 h3 h4 h5
 simp -implicitDefEqProofs [go_sem]
 refine ⟨fun h=>?_,fun h=>?_⟩
 ·have hga:=bw .u32 (l:=a) (i:=i) (by omega)
  have hx:=la.getD (by omega) i
  have t1:=aR 4294967296 a i
  obtain ⟨x,hxx⟩:∃x,x=a.getD i 0:=⟨_,rfl⟩
  rw [←hxx] at hx t1 hga
  refine ap 9 (α:={p:List Nat×Nat×Nat // p.1.length=m∧p.2.1≤b.length∧p.2.2<4294967296∧bZ 4294967296 p.1∧lv 4294967296 p.1+4294967296 ^ (i+p.2.1)*p.2.2=lv 4294967296 (a.take i)*lv 4294967296 b+4294967296 ^ i*(x*lv 4294967296 (b.take p.2.1))∧∀j,i+b.length≤j→p.1.getD j 0=0}) (fun p=>[(0,mA a),(1,mA b),(5,.own 1 0 0 m),(6,.int .i64 i),(7,.int .u64 p.1.2.2),(8,.int .i64 p.1.2.1)]) (fun p=>[(0,.live 1 (uA .u32 p.1.1))]) (fun p=>b.length-p.1.2.1) ⟨(out,0,0),h1,by simp,by simp,h3,by simp [h4],h5⟩ [] (by simp) (by simp) (by simp) (by simp -implicitDefEqProofs [go_sem]) (by simp -implicitDefEqProofs [go_sem]) fun ⟨⟨o2,k,c⟩,q1,q2,q3,q4,q5,q6⟩=>?_
  simp only at q1 q2 q3 q4 q5 q6
  simp -implicitDefEqProofs [go_sem]
  refine ⟨fun hk=>?_,fun hk=>?_⟩
  ·have hgb:=bw .u32 (l:=b) (i:=k) (by omega)
   have hy:=lb.getD (by omega) k
   have t2:=aR 4294967296 b k
   obtain ⟨y,hyy⟩:∃y,y=b.getD k 0:=⟨_,rfl⟩
   rw [←hyy] at hy t2 hgb
   obtain ⟨j,hj⟩:∃j,j=i+k:=⟨_,rfl⟩
   rw [←hj] at q5
   have ej:IntKind.i64.wrap ((i:Int)+k)=(j:Nat):=by rw [bS (by omega)]; omega
   have hjm:j<m:=by omega
   have hjo:j<o2.length:=by omega
   have hgo:=eI .u32 (l:=o2) (i:=j) hjo
   have hw:=q4.getD (by omega) j
   obtain ⟨w,hww⟩:∃w,w=o2.getD j 0:=⟨_,rfl⟩
   rw [←hww] at hgo hw
   have hxy:x*y≤4294967295*4294967295:=Nat.mul_le_mul (by omega) (by omega)
   have wx:IntKind.u64.wrap (x:Int)=x:=cI (by omega)
   have wy:IntKind.u64.wrap (y:Int)=y:=cI (by omega)
   have ww:IntKind.u64.wrap (w:Int)=w:=cI (by omega)
   have e1:IntKind.u64.wrap ((x:Int)*y)=(x*y:Nat):=Co (by omega)
   obtain ⟨xy,hxye⟩:∃q,q=x*y:=⟨_,rfl⟩
   rw [←hxye] at e1 hxy
   have e2:IntKind.u64.wrap ((w:Int)+xy)=(w+xy:Nat):=lm (by omega)
   obtain ⟨s1,hs1⟩:∃q,q=w+xy:=⟨_,rfl⟩
   rw [←hs1] at e2
   have e3:IntKind.u64.wrap ((s1:Int)+c)=(s1+c:Nat):=lm (by omega)
   obtain ⟨v,hv⟩:∃q,q=s1+c:=⟨_,rfl⟩
   rw [←hv] at e3
   have e4:=rj v
   have e5:=yf v
   have hdm:=Nat.mod_add_div v 4294967296
   have hlo:v%4294967296<4294967296:=Nat.mod_lt _ (by omega)
   obtain ⟨lo,hlo2⟩:∃j,j=v%4294967296:=⟨_,rfl⟩
   obtain ⟨c2,hc2⟩:∃j,j=v / 4294967296:=⟨_,rfl⟩
   rw [←hlo2] at e4 hdm hlo
   rw [←hc2] at e5 hdm
   have es:=wS k (by omega)
   have hset:=lT 4294967296 lo hjo
   rw [←hww] at hset
   simp -implicitDefEqProofs [go_sem,hga,hgb,ej,hgo,wx,wy,ww,e1,e2,e3,e4,e5,es,dn]
   refine ⟨hjm,hjo,h,hk,hjm,hjo,ae ⟨(o2.set j lo,k+1,c2),by simp [q1],Nat.succ_le_of_lt hk,by simp only; omega,q4.set hlo j,?_,fun j' hj'=>by rw [getD_set_ne (by omega)]; exact q6 j' hj'⟩ (by simp only; omega) [] (by simp) (by simp) (by simp) (by simp -implicitDefEqProofs [go_sem]) (by simp -implicitDefEqProofs [go_sem,dn])⟩
   simp only
   rw [←Nat.add_assoc,←hj,t2,Nat.pow_succ]
   have h7:4294967296 ^ j*(lo+4294967296*c2)=4294967296 ^ j*(w+x*y+c):=by rw [hdm,hv,hs1,hxye]
   have h8:4294967296 ^ i*(x*(4294967296 ^ k*y))=4294967296 ^ j*(x*y):=by rw [hj,Nat.pow_add,Nat.mul_left_comm x,←Nat.mul_assoc]
   simp only [Nat.mul_add,←Nat.mul_assoc] at h7 h8 q5 hset ⊢
   omega
  ·have hkk:k=b.length:=by omega
   subst hkk
   obtain ⟨j,hj⟩:∃j,j=i+b.length:=⟨_,rfl⟩
   have ej:IntKind.i64.wrap ((i:Int)+b.length)=(j:Nat):=by rw [bS (by omega)]; omega
   have hjo:j<o2.length:=by omega
   have hjm:j<m:=by omega
   have hgj:=eI .u32 (l:=o2) (i:=j) (by omega)
   have es:=wS i (by omega)
   have hset:=lT 4294967296 c hjo
   rw [q6 j (by omega)] at hset
   rw [←hj,List.take_length] at q5
   have e4:=rj c
   rw [Nat.mod_eq_of_lt q3] at e4
   simp -implicitDefEqProofs [go_sem,ej,hgj,es,e4]
   refine ⟨hjm,hjo,ae ⟨(o2.set j c,i+1),by simp [q1],Nat.succ_le_of_lt h,q4.set q3 j,?_,fun j' hj'=>by simp only at hj'; rw [getD_set_ne (by omega)]; exact q6 j' (by omega)⟩ (by simp only; omega) [] (by simp) (by simp) (by simp) (by simp -implicitDefEqProofs [go_sem]) (by simp -implicitDefEqProofs [go_sem,dn])⟩
   simp only
   rw [t1,Nat.add_mul,Nat.mul_assoc]
   omega
 ·have hi:i=a.length:=by omega
  rw [hi,List.take_length,hva,hvb] at h4
  refine cq [0] _ (dG out (by unfold dj; omega)) (by simp -implicitDefEqProofs [go_sem,←h1,dS]) (by simp -implicitDefEqProofs [go_sem]) (by simp -implicitDefEqProofs [go_sem,h1]) (by simp -implicitDefEqProofs [go_sem]) ?_
  rw [aT (by omega) h3,h4]
  simp -implicitDefEqProofs [go_sem]
theorem K7 {r x:Nat} (hr:r<4294967296) (hx:x<4294967296):Id .u64 (IntKind.u64.wrap ((r:Int)*4294967296)) (x:Int)=(r*4294967296+x:Nat):=by
 have e:IntKind.u64.wrap ((r:Int)*4294967296)=(r*4294967296:Nat):=by rw [cI (by omega)]; omega
 rw [e,Q9 (by omega) (by omega)]
 have h:=Nat.two_pow_add_eq_or_of_lt (i:=32) (b:=x) (by omega) r
 rw [show (2:Nat) ^ 32=4294967296 by rfl,Nat.mul_comm] at h
 rw [←h]
theorem CZ (A y:Nat) (ha:cg (ax 4294967296 A)) (hy:0<y) (hyB:y<4294967296):ag Tryz.prog 218 [qA A,.int .u32 y] (.agg [qA (A / y),qA (A%y)]):=by
 unfold cg at ha
 have hva:=aA (B:=4294967296) (by omega) A
 have la:=ay (B:=4294967296) (by omega) A
 have hof:=fJ (A%y) (by have:=Nat.mod_lt A hy; omega)
 refine Pg Tryz.func218 rfl [.cell 4 238] rfl (by simp -implicitDefEqProofs [go_sem,qA]) ?_
 unfold qA at *
 generalize ax 4294967296 A=a at *
 simp -implicitDefEqProofs [go_sem]
 refine ⟨by omega,?_⟩
 rw [jU,bS (by omega)]
 obtain ⟨QQ,hQQ⟩:∃q,q=A / y:=⟨_,rfl⟩
 obtain ⟨RR,hRR⟩:∃q,q=A%y:=⟨_,rfl⟩
 rw [←hRR] at hof
 rw [←hQQ,←hRR]
 refine ap 9 (α:={p:List Nat×Nat×Nat // p.1.length=a.length∧bZ 4294967296 p.1∧p.2.1<y∧p.2.2≤a.length∧lv 4294967296 (a.drop p.2.2)=y*lv 4294967296 (p.1.drop p.2.2)+p.2.1}) (fun p=>[(0,mA a),(1,.int .u32 y),(4,.ptr 0 0 0),(5,.own 1 1 0 a.length),(6,.int .u64 p.1.2.1),(7,.int .i64 ((p.1.2.2:Int)-1))]) (fun p=>[(0,.live 2 [.agg [.sl 0 true [],.sl 0 true []]]),(1,.live 1 (uA .u32 p.1.1))]) (fun p=>p.1.2.2) ⟨(List.replicate a.length 0,0,a.length),by simp,fun x hx=>by rw [(List.mem_replicate.1 hx).2]; decide,hy,by simp,by simp⟩ [] (by simp) (fun _ _ _ _ h=>h) (by omega) (by simp -implicitDefEqProofs [go_sem]) (by simp -implicitDefEqProofs [go_sem]) fun ⟨⟨out,m,i⟩,q1,q2,q3,q4,q5⟩=>?_
 simp only at q1 q2 q3 q4 q5
 simp -implicitDefEqProofs [go_sem]
 refine ⟨fun h0=>?_,fun h0=>?_⟩
 ·obtain ⟨k,hik⟩:∃k,i=k+1:=⟨i-1,by omega⟩
  subst hik
  have g1:=bw .u32 (l:=a) (i:=k) (by omega)
  have hx:=la.getD (by omega) k
  have hko:k<out.length:=by omega
  have g2:=eI .u32 (l:=out) (i:=k) hko
  have hd:=kV 4294967296 (l:=a) (k:=k) (by omega)
  obtain ⟨x,hxx⟩:∃x,x=a.getD k 0:=⟨_,rfl⟩
  rw [←hxx] at hx g1 hd
  have hdm:=Nat.div_add_mod (m*4294967296+x) y
  have hml:=Nat.mod_lt (m*4294967296+x) hy
  have hqB:(m*4294967296+x) / y<4294967296:=by
   rw [Nat.div_lt_iff_lt_mul hy]
   have:(m+1)*4294967296≤y*4294967296:=Nat.mul_le_mul_right _ q3
   rw [Nat.mul_comm 4294967296]
   omega
  have e0:=K7 (r:=m) (x:=x) (by omega) hx
  have wx:IntKind.u64.wrap (x:Int)=x:=cI (by omega)
  have wy:IntKind.u64.wrap (y:Int)=y:=cI (by omega)
  have ei:IntKind.i64.wrap (((k+1:Nat):Int)-1)=(k:Nat):=by rw [bS (by omega)]; omega
  have ek:((k+1:Nat):Int)-1=(k:Nat):=by omega
  have ek2:IntKind.i64.wrap ((k:Int)-1)=(k:Int)-1:=bS (by omega)
  simp -implicitDefEqProofs [go_sem,ek,g1]
  refine ⟨by omega,?_⟩
  obtain ⟨v,hv⟩:∃v,v=m*4294967296+x:=⟨_,rfl⟩
  rw [←hv] at e0 hdm hml hqB
  have e1:((v:Int).tdiv (y:Int))=(v / y:Nat):=by rw [Int.tdiv_eq_ediv_of_nonneg (by omega)]; rfl
  have e2:((v:Int).tmod (y:Int))=(v%y:Nat):=by rw [Int.tmod_eq_emod_of_nonneg (by omega)]; rfl
  obtain ⟨q,hq⟩:∃q,q=v / y:=⟨_,rfl⟩
  obtain ⟨m2,hm2⟩:∃q,q=v%y:=⟨_,rfl⟩
  rw [←hq] at e1 hdm hqB
  rw [←hm2] at e2 hdm hml
  have e4:IntKind.u64.wrap (q:Int)=q:=cI (by omega)
  have e3:=rj q
  rw [Nat.mod_eq_of_lt hqB] at e3
  have hy0:¬y=0:=by omega
  simp -implicitDefEqProofs [go_sem,ek,ek2,g1,g2,wx,wy,e0,e1,e2,e3,e4,hy0,g2,dn]
  refine ⟨by omega,hko,?_⟩
  refine ae ⟨(out.set k q,m2,k),by simp [q1],q2.set hqB k,hml,by simp only; omega,?_⟩ (by simp only; omega) [] (by simp) (fun _ _ _ _ h=>h) (by omega) (by simp -implicitDefEqProofs [go_sem]) (by simp -implicitDefEqProofs [go_sem,dn])
  simp only
  have e9:(out.set k q).drop k=q::out.drop (k+1):=by
   rw [List.drop_eq_getElem_cons (by simpa using hko),List.drop_set_of_lt (by omega)]
   simp
  rw [e9,cD,hd,q5]
  have h9:4294967296*(y*lv 4294967296 (out.drop (k+1))+m)=y*(4294967296*lv 4294967296 (out.drop (k+1)))+m*4294967296:=by
   rw [Nat.mul_add,Nat.mul_left_comm,Nat.mul_comm m]
  rw [h9,Nat.mul_add y]
  omega
 ·have hi:i=0:=by omega
  subst hi
  simp only [List.drop_zero] at q5
  have hQ:lv 4294967296 out=QQ:=by rw [hQQ,←hva,q5,Nat.mul_add_div hy,Nat.div_eq_of_lt q3,Nat.add_zero]
  have hR:m=RR:=by rw [hRR,←hva,q5,Nat.mul_add_mod,Nat.mod_eq_of_lt q3]
  refine cq [1] _ (dG out (by unfold dj; omega)) (by simp -implicitDefEqProofs [go_sem,←q1,dS]) (by simp -implicitDefEqProofs [go_sem]) (by simp -implicitDefEqProofs [go_sem,q1]) (by simp -implicitDefEqProofs [go_sem]) ?_
  rw [aT (by omega) q2,hQ,hR]
  simp -implicitDefEqProofs [go_sem]
  refine ac hof ?_
  simp -implicitDefEqProofs [go_sem,aL]
theorem Fg {R V p x bt:Nat} {r bl:List Nat} (hr:lv 4294967296 r=R) (hv:lv 4294967296 (bl++[bt])=V) (lb:bZ 4294967296 bl) (hp:p=bl.length) (hpr:p≤r.length) (hx:x=lv 4294967296 (r.drop p)):x / (bt+1)*V≤R:=by
 have h1:R=lv 4294967296 (r.take p)+4294967296 ^ p*x:=by
  rw [hx,←hr]
  conv=>lhs; rw [←List.take_append_drop p r]
  rw [ce,List.length_take,Nat.min_eq_left hpr]
 have h2:V≤4294967296 ^ p*(bt+1):=by
  have:=cN (B:=4294967296) lb
  rw [←hp] at this
  rw [←hv,ce,←hp,cD,eD,Nat.mul_zero,Nat.add_zero,Nat.mul_add,Nat.mul_one]
  omega
 have h3:x / (bt+1)*(bt+1)≤x:=Nat.div_mul_le_self _ _
 calc x / (bt+1)*V≤x / (bt+1)*(4294967296 ^ p*(bt+1)):=Nat.mul_le_mul_left _ h2
  _=4294967296 ^ p*(x / (bt+1)*(bt+1)):=by rw [Nat.mul_left_comm]
  _≤4294967296 ^ p*x:=Nat.mul_le_mul_left _ h3
  _≤R:=by omega
theorem Jb {x y:Int}:cA x y≤0↔x≤y:=by
 unfold cA; split
 ·constructor<;>omega
 ·split<;>constructor<;>omega
theorem AB {A V k:Nat} (h:V<4294967296 ^ k):(ax 4294967296 (A*V)).length≤(ax 4294967296 A).length+k:=by
 refine cw (by omega) ?_
 rw [Nat.pow_add]
 have h1:=cN (ay (B:=4294967296) (by omega) A)
 rw [aA (by omega)] at h1
 exact Nat.mul_lt_mul'' h1 h
theorem xz (R V:Nat) (hr:cg (ax 4294967296 R)) (hb:cg (ax 4294967296 V)) (hVR:V≤R) (h0:0<V) (hlt:R<V*4294967296):ag Tryz.prog 219 [qA R,qA V] (.int .u32 (R / V:Nat)):=by
 have hmul:=fun h (hh:h<18446744073709551616)=>fE V h hb (by unfold cg; have:=cw (B:=4294967296) (n:=h) (k:=2) (by omega) hh; omega)
 have hcmp:=fun h (hh:h<18446744073709551616)=>jh (V*h) R (by unfold cg at hb; unfold dj; have:=AB (A:=V) (V:=h) (k:=2) hh; omega) hr.x
 have hof:=fun h (hh:h<18446744073709551616)=>fJ h hh
 unfold cg at hr hb
 have hvr:=aA (B:=4294967296) (by omega) R
 have hvb:=aA (B:=4294967296) (by omega) V
 have lr:=ay (B:=4294967296) (by omega) R
 have lb:=ay (B:=4294967296) (by omega) V
 obtain ⟨bl,bt,hbe,hbt⟩:=h_ (B:=4294967296) (n:=V) (by omega) (Nat.pos_iff_ne_zero.1 h0)
 obtain ⟨n,hn⟩:∃n,n=(ax 4294967296 V).length:=⟨_,rfl⟩
 obtain ⟨m,hm⟩:∃m,m=(ax 4294967296 R).length:=⟨_,rfl⟩
 have hnp:n=bl.length+1:=by rw [hn,hbe]; simp
 have hmn:n≤m:=by
  rw [hn,hm]
  rcases Nat.lt_or_ge (ax 4294967296 R).length (ax 4294967296 V).length with h|h
  ·have:=fI (B:=4294967296) (by omega) lr h; omega
  ·exact h
 have hmn1:m≤n+1:=by
  rw [hm]
  refine cw (by omega) ?_
  have h1:=cN lb
  rw [hvb,←hn] at h1
  have h2:V*4294967296<4294967296 ^ n*4294967296:=Nat.mul_lt_mul_of_pos_right h1 (by omega)
  rw [Nat.pow_succ]; exact Nat.lt_trans hlt h2
 have lbl:bZ 4294967296 bl:=by rw [hbe] at lb; exact (bE.1 lb).1
 have hbtB:bt<4294967296:=by
  have h9:bt∈ax 4294967296 V:=by rw [hbe]; exact List.mem_append_right _ (List.mem_singleton_self _)
  exact lb bt h9
 have hgb:=bw .u32 (l:=ax 4294967296 V) (i:=bl.length) (by omega)
 rw [show (ax 4294967296 V).getD bl.length 0=bt by rw [hbe,List.getD_eq_getElem?_getD,List.getElem?_append_right (Nat.le_refl _),Nat.sub_self]; rfl] at hgb
 have hvbl:lv 4294967296 (bl++[bt])=V:=by rw [←hbe]; exact hvb
 refine Pg Tryz.func219 rfl [.tmp 4] rfl (by simp -implicitDefEqProofs [go_sem]) ?_
 unfold qA at *
 generalize ax 4294967296 R=r at *
 generalize ax 4294967296 V=b at *
 obtain ⟨p,hp⟩:∃p,p=bl.length:=⟨_,rfl⟩
 obtain ⟨mm,hmm⟩:∃q,m=q+1:=⟨m-1,by omega⟩
 have hg1:=bw .u32 (l:=r) (i:=mm) (by omega)
 have hx1:=lr.getD (by omega) mm
 obtain ⟨r1,hr1⟩:∃x,x=r.getD mm 0:=⟨_,rfl⟩
 rw [←hr1] at hg1 hx1
 have e1:IntKind.i64.wrap ((r.length:Int)-1)=(mm:Nat):=by rw [bS (by omega)]; omega
 have e2:IntKind.u64.wrap (r1:Int)=r1:=cI (by omega)
 have e3:IntKind.i64.wrap ((b.length:Int)-1)=(p:Nat):=by rw [bS (by omega)]; omega
 rw [←hp] at hgb
 have e4:IntKind.u64.wrap (bt:Int)=bt:=cI (by omega)
 obtain ⟨x,hx⟩:∃x,x=lv 4294967296 (r.drop p):=⟨_,rfl⟩
 have hd:=Fg (p:=p) (x:=x) hvr hvbl lbl hp (by omega) hx
 have hxB:x<18446744073709551616:=by
  have h1:=cN (B:=4294967296) (lr.drop p)
  have h2:4294967296 ^ (r.drop p).length≤4294967296 ^ 2:=Nat.pow_le_pow_right (by omega) (by rw [List.length_drop]; omega)
  rw [←hx] at h1
  omega
 obtain ⟨bt1,hbt1⟩:∃q,q=bt+1:=⟨_,rfl⟩
 obtain ⟨d,hdd⟩:∃q,q=x / bt1:=⟨_,rfl⟩
 have e8:IntKind.u64.wrap ((bt:Int)+1)=(bt1:Nat):=by rw [cI (by omega)]; omega
 have e9:¬bt1=0:=by omega
 have e10:(x:Int).tdiv (bt1:Int)=(d:Nat):=by rw [Int.tdiv_eq_ediv_of_nonneg (by omega),hdd]; rfl
 have e10':(x:Int) / (bt1:Int)=(d:Nat):=by rw [hdd]; rfl
 have e11:IntKind.u64.wrap (d:Int)=d:=cI (by
  have:d≤x:=by rw [hdd]; exact Nat.div_le_self _ _
  omega)
 rw [←hbt1,←hdd] at hd
 rcases Nat.lt_or_ge b.length r.length with h|h
 case' inl =>
  have hg2:=bw .u32 (l:=r) (i:=p) (by omega)
  have hx2:=lr.getD (by omega) p
  have d1:=kV 4294967296 (l:=r) (k:=p) (by omega)
  have d2:=kV 4294967296 (l:=r) (k:=p+1) (by omega)
  rw [show r.drop (p+1+1)=[] from List.drop_eq_nil_of_le (by omega),eD] at d2
  rw [d2,←hx,show p+1=mm by omega,←hr1] at d1
  obtain ⟨r2,hr2⟩:∃x,x=r.getD p 0:=⟨_,rfl⟩
  rw [←hr2] at hg2 hx2 d1
  have e5:IntKind.i64.wrap ((r.length:Int)-2)=(p:Nat):=by rw [bS (by omega)]; omega
  have e6:IntKind.u64.wrap (r2:Int)=r2:=cI (by omega)
  have e7:=K7 hx1 hx2
  rw [show r1*4294967296+r2=x by omega] at e7
  clear d1 d2 hx2 hx1
  simp -implicitDefEqProofs [go_sem,e1,hg1,e2,h,e5,hg2,e6,e7,e3,e4,hgb,e8,e9,e10,e10',e11]
  refine ⟨by omega,by omega,by omega,?_⟩
 case' inr =>
  have hxr:x=r1:=by
   have d1:=kV 4294967296 (l:=r) (k:=p) (by omega)
   rw [show r.drop (p+1)=[] from List.drop_eq_nil_of_le (by omega),eD,←hx,show p=mm by omega,←hr1] at d1
   exact d1
  subst hxr
  simp -implicitDefEqProofs [go_sem,e1,hg1,e2,Nat.not_lt.2 h,e3,e4,hgb,e8,e9,e10,e10',e11]
  refine ⟨by omega,by omega,?_⟩
 all_goals
  obtain ⟨Q,hQ⟩:∃q,q=R / V:=⟨_,rfl⟩
  rw [←Nat.le_div_iff_mul_le h0,←hQ] at hd
  have hQB:Q<4294967296:=by rw [hQ,Nat.div_lt_iff_lt_mul h0,Nat.mul_comm]; exact hlt
  have hle:∀h,cA ((V*h:Nat):Int) (R:Int)≤0↔h≤Q:=fun h=>by
   rw [Jb,hQ,Nat.le_div_iff_mul_le h0,Nat.mul_comm h V]; omega
  rw [show ((R:Int) / (V:Int))=(Q:Nat) by rw [hQ]; rfl]
  refine ap 9 (α:={p:Nat×Nat×Nat // p.1≤Q∧p.1≤p.2.1∧(p.2.1=p.1→p.2.1=d)∧1≤p.2.2∧p.2.2≤p.2.1+1∧p.2.1≤8589934592}) (fun p=>[(0,mA r),(1,mA b),(8,.int .u64 p.1.1),(9,.int .u64 p.1.2.1),(10,.int .u64 p.1.2.2)]) (fun p=>[]) (fun p=>8589934592-p.1.2.1) ⟨(d,d,1),hd,by simp,fun _=>rfl,by simp,by simp only; omega,by simp only; omega⟩ [] (by simp) (by simp) (by simp) (by simp -implicitDefEqProofs [go_sem]) (by simp -implicitDefEqProofs [go_sem]) fun ⟨⟨lo,hi,st⟩,q1,q2,q3,q4,q5,q6⟩=>?_
  simp only at q1 q2 q3 q4 q5 q6
  simp -implicitDefEqProofs [go_sem]
  refine ac (hof hi (by omega)) ?_
  simp -implicitDefEqProofs [go_sem]
  refine ac (hmul hi (by omega)) ?_
  have hc1:=hcmp hi (by omega)
  have hc2:=hle hi
  generalize V*hi=vh at *
  obtain ⟨c,hc⟩:∃c,c=cA (vh:Int) (R:Int):=⟨_,rfl⟩
  rw [←hc] at hc1 hc2
  simp -implicitDefEqProofs [go_sem]
  refine ac hc1 ?_
  rcases Nat.lt_or_ge Q hi with hq|hq
  case' inr =>
   have hc3:c≤0:=by rw [hc2]; exact hq
   have hc4:(hi:Int)<4294967296:=by omega
   have w1:IntKind.u64.wrap ((hi:Int)+st)=(hi+st:Nat):=lm (by omega)
   have w2:IntKind.u64.wrap ((st:Int)*2)=(st*2:Nat):=by rw [cI (by omega)]; omega
   obtain ⟨h2,hh2⟩:∃h,h=hi+st:=⟨_,rfl⟩
   obtain ⟨s2,hs2⟩:∃h,h=st*2:=⟨_,rfl⟩
   rw [←hh2] at w1
   rw [←hs2] at w2
   simp -implicitDefEqProofs [go_sem,hc3,hc4,w1,w2]
   exact ae ⟨(hi,h2,s2),hq,by simp only; omega,by simp only; omega,by simp only; omega,by simp only; omega,by simp only; omega⟩ (by simp only; omega) [] (by simp) (by simp) (by simp) (by simp -implicitDefEqProofs [go_sem]) (by simp -implicitDefEqProofs [go_sem])
  case' inl =>
   have hc3:¬c≤0:=by rw [hc2]; omega
   obtain ⟨h3,hh3⟩:∃h,h=min hi 4294967296:=⟨_,rfl⟩
   have hm1:(if 4294967296<(hi:Int) then 4294967296 else (hi:Int))=(h3:Nat):=by split<;>omega
   simp -implicitDefEqProofs [go_sem,hc3,hm1]
   clear hc1 hc2 hc hm1
   refine ap 9 (α:={p:Nat×Nat // p.1≤Q∧Q<p.2∧p.2≤4294967296}) (fun p=>[(0,mA r),(1,mA b),(8,.int .u64 p.1.1),(9,.int .u64 p.1.2)]) (fun p=>[]) (fun p=>p.1.2-p.1.1) ⟨(lo,h3),q1,by simp only; omega,by simp only; omega⟩ [] (by simp) (by simp) (by simp) (by simp -implicitDefEqProofs [go_sem]) (by simp -implicitDefEqProofs [go_sem]) fun ⟨⟨lo,hi⟩,q1,q2,q3⟩=>?_
   simp only at q1 q2 q3
   have w1:IntKind.u64.wrap ((hi:Int)-lo)=(hi-lo:Nat):=by rw [cI (by omega)]; omega
   obtain ⟨df,hdf⟩:∃h,h=hi-lo:=⟨_,rfl⟩
   rw [←hdf] at w1
   have w2:IntKind.u64.wrap ((df:Int) / 2)=(df / 2:Nat):=by rw [cI (by omega)]; omega
   obtain ⟨d2,hd2⟩:∃h,h=df / 2:=⟨_,rfl⟩
   rw [←hd2] at w2
   have w3:IntKind.u64.wrap ((lo:Int)+d2)=(lo+d2:Nat):=lm (by omega)
   obtain ⟨md,hmd⟩:∃h,h=lo+d2:=⟨_,rfl⟩
   rw [←hmd] at w3
   simp -implicitDefEqProofs [go_sem,w1]
   refine ⟨fun h5=>?_,fun h5=>?_⟩
   case' refine_1 =>
    simp -implicitDefEqProofs [go_sem,w1,w2,w3]
    refine ac (hof md (by omega)) ?_
    simp -implicitDefEqProofs [go_sem]
    refine ac (hmul md (by omega)) ?_
    have hc1:=hcmp md (by omega)
    have hc2:=hle md
    generalize V*md=vh at *
    obtain ⟨c,hc⟩:∃c,c=cA (vh:Int) (R:Int):=⟨_,rfl⟩
    rw [←hc] at hc1 hc2
    simp -implicitDefEqProofs [go_sem]
    refine ac hc1 ?_
    simp -implicitDefEqProofs [go_sem]
    refine ⟨fun h6=>?_,fun h6=>?_⟩
    ·exact ae ⟨(md,hi),hc2.1 h6,q2,q3⟩ (by simp only; omega) [] (by simp) (by simp) (by simp) (by simp -implicitDefEqProofs [go_sem]) (by simp -implicitDefEqProofs [go_sem])
    ·have h7:¬md≤Q:=fun h8=>by have:=hc2.2 h8; omega
     exact ae ⟨(lo,md),q1,by simp only; omega,by simp only; omega⟩ (by simp only; omega) [] (by simp) (by simp) (by simp) (by simp -implicitDefEqProofs [go_sem]) (by simp -implicitDefEqProofs [go_sem])
   case' refine_2 =>
    have hlo:lo=Q:=by omega
    subst hlo
    have e20:=rj lo
    rw [Nat.mod_eq_of_lt hQB] at e20
    simp -implicitDefEqProofs [go_sem,e20]
theorem Pt {ne:Nat} {t t1:Nat→AV} {f:Nat→BS} {n:Nat} {s0:St} (hw:∀k,Wk (t k) (t1 k)) (h:le ne ⟨t1,f,n⟩ s0):le ne ⟨t,f,n⟩ s0:=by
 rintro c0 N a w ⟨c,rfl,hk,hfr,ht,hN,hd,hs,h0,hne⟩
 exact h c0 N a _ ⟨c,rfl,hk,hfr,fun k=>(hw k).1 c _ (ht k),hN,hd,hs,h0,hne⟩
theorem MZ {t:Nat→AV} {i:Nat} {v:AV} (h:Wk (t i) v):∀k,Wk (t k) (aH t i v k):=fun k=>by
 unfold aH; split
 ·rename_i e; subst e; exact h
 ·exact Wk.refl _
theorem zM {P:Program} {z:Bool} {ne:Nat} {Q:AEx→St→Prop} {k:List Itm} {t:Nat→AV} {f:Nat→BS} {n:Nat} {c:Code} {α:Type} (i:Nat) (v:AV) (hw:Wk (t i) v) (n1:Nat) (tl:α→List (Nat×AV)) (hl:α→List (Nat×BS)) (m:α→Nat) (x0:α) (rl:List (Nat×Nat)) (hrl:∀p∈rl,ne≤p.1) (hri:∀p∈hl x0,∀q∈hl x0,nm rl p.1=nm rl q.1→p.1=q.1) (hne:ne≤n1) (ht:∀p∈tl x0,aH t i v p.1=ren (nm rl) p.2∧clo n1 p.2) (hh:∀p∈hl x0,p.1<n1∧f (nm rl p.1)=l_ (nm rl) p.2∧gR ne n1 p)
 (h:∀x,go P z ne Q (.code c :: .lp α (fun y=>K6 n1 (tl y) (hl y)) m x::k) (tm (tl x)) (hp n1 (hl x)) n1):go P z ne Q (.code (.loop c)::k) t f n :=
 xu (fun y=>K6 n1 (tl y) (hl y)) m x0 (Pt (MZ hw) (lR rl hrl hri hne ht hh)) h
theorem cU {B x y:Nat} (hB:2≤B) (h:x≤y):(ax B x).length≤(ax B y).length:=by
 refine cw hB ?_
 have h1:=cN (ay (B:=B) (by omega) y)
 rw [aA (by omega)] at h1
 omega
theorem Cm (B:Nat) (hB:B≠0) (l:List Nat) (k:Nat):lv B (l.drop k)≤lv B l:=by
 rcases Nat.lt_or_ge k l.length with h|h
 ·have h1:lv B l=lv B (l.take k)+B ^ k*lv B (l.drop k):=by
   conv=>lhs; rw [←List.take_append_drop k l]
   rw [ce,List.length_take,Nat.min_eq_left (by omega)]
  have h2:1*lv B (l.drop k)≤B ^ k*lv B (l.drop k):=Nat.mul_le_mul_right _ (Nat.pow_pos (by omega))
  omega
 ·rw [List.drop_eq_nil_of_le h,eD]; exact Nat.zero_le _
theorem iv (A V:Nat) (ha:cg (ax 4294967296 A)) (hb:cg (ax 4294967296 V)) (h0:0<V):ag Tryz.prog 155 [qA A,qA V] (.agg [qA (A / V),qA (A%V)]):=by
 have hcmp:=jh A V ha.x hb.x
 by_cases hlt:A<V
 ·have hc:cA A V<0:=by rw [eN (by omega)]; omega
  rw [Nat.div_eq_of_lt hlt,Nat.mod_eq_of_lt hlt]
  refine (ag.of_go (r := .agg [.sl 0 true [],qA A]) lZ Tryz.func155 rfl (rs:=[.cell 4 238]) rfl (by kernel_rfl) (by simp -implicitDefEqProofs [go_sem,qA]) ?_).weaken (Wk.agg (.cons (by unfold qA; rw [aW]; exact Wk.nil 0 1 true) (rQ.refl _)))
  unfold qA at *
  simp -implicitDefEqProofs [go_sem]
  refine ac hcmp ?_
  simp -implicitDefEqProofs [go_sem,hc,aL]
 ·have hVA:V≤A:=by omega
  have hc:¬cA A V<0:=by
   rcases Nat.lt_or_ge V A with h|h
   ·rw [dI (by omega)]; omega
   ·rw [show A=V by omega,is]; omega
  have hva:=aA (B:=4294967296) (by omega) A
  have la:=ay (B:=4294967296) (by omega) A
  obtain ⟨QQ,hQQ⟩:∃q,q=A / V:=⟨_,rfl⟩
  obtain ⟨RR,hRR⟩:∃q,q=A%V:=⟨_,rfl⟩
  by_cases h1:V<4294967296
  ·have hsh:=CZ A V ha h0 h1
   have hy1:=fD (B:=4294967296) (by omega) (Nat.pos_iff_ne_zero.1 h0) h1
   refine Pg Tryz.func155 rfl [.cell 4 238] rfl (by simp -implicitDefEqProofs [go_sem,qA]) ?_
   rw [←hQQ,←hRR] at hsh ⊢
   have hva2:(ax 4294967296 V).length=1:=by rw [hy1]; rfl
   have hg:=bw .u32 (l:=ax 4294967296 V) (i:=0) (by omega)
   rw [show (ax 4294967296 V).getD 0 0=V by rw [hy1]; rfl] at hg
   unfold qA at *
   generalize ax 4294967296 V=b at *
   simp only [Int.natCast_zero,Int.ofNat_zero] at hg
   simp -implicitDefEqProofs [go_sem]
   refine ac hcmp ?_
   simp -implicitDefEqProofs [go_sem,hc,hva2,hg]
   refine ac hsh ?_
   simp -implicitDefEqProofs [go_sem,aL]
  ·have hb2:2≤(ax 4294967296 V).length:=by
    rcases Nat.lt_or_ge (ax 4294967296 V).length 2 with h|h
    ·exfalso
     have h2:=cN (ay (B:=4294967296) (by omega) V)
     rw [aA (by omega)] at h2
     have h3:4294967296 ^ (ax 4294967296 V).length≤4294967296 ^ 1:=Nat.pow_le_pow_right (by omega) (by omega)
     omega
    ·exact h
   have hcm:∀x,x≤A→ag Tryz.prog 217 [qA x,qA V] (.int .i64 (cA x V)):=fun x hx=>jh x V (cg.x (Nat.lt_of_le_of_lt (cU (by omega) hx) ha)) hb.x
   have hgs:∀x,x≤A→V≤x→x<V*4294967296→ag Tryz.prog 219 [qA x,qA V] (.int .u32 (x / V:Nat)):=fun x hx hv hl=>xz x V (Nat.lt_of_le_of_lt (cU (by omega) hx) ha) hb hv h0 hl
   have hml:∀d,d<4294967296→ag Tryz.prog 200 [qA V,qA d] (qA (V*d)):=fun d hd=>fE V d hb (by unfold cg; have:=cw (B:=4294967296) (n:=d) (k:=1) (by omega) (by omega); omega)
   have hsb:∀x y,x≤A→y≤x→ag Tryz.prog 220 [qA x,qA y] (qA (x-y)):=fun x y hx hy=>nV x y (Nat.lt_of_le_of_lt (cU (by omega) hx) ha) (Nat.lt_of_le_of_lt (cU (by omega) (Nat.le_trans hy hx)) ha) hy
   refine Pg Tryz.func155 rfl [.cell 4 238] rfl (by simp -implicitDefEqProofs [go_sem,qA]) ?_
   rw [←hQQ,←hRR]
   unfold cg at ha
   unfold qA at *
   generalize ax 4294967296 A=a at *
   generalize hbe:ax 4294967296 V=b at *
   have hbl:¬(b.length:Int)=1:=by omega
   simp -implicitDefEqProofs [go_sem]
   refine ac hcmp ?_
   simp -implicitDefEqProofs [go_sem,hc,hbl]
   refine ⟨by omega,?_⟩
   rw [jU,bS (by omega)]
   refine zM 6 (mA (ax 4294967296 0)) (by rw [aW]; exact Wk.nil 0 1 true) 9 (α:={p:List Nat×Nat×Nat // p.1.length=a.length∧bZ 4294967296 p.1∧p.2.1<V∧p.2.2≤a.length∧lv 4294967296 (a.drop p.2.2)=V*lv 4294967296 (p.1.drop p.2.2)+p.2.1∧∀j,j<p.2.2→p.1.getD j 0=0}) (fun p=>[(0,mA a),(1,mA b),(4,.ptr 0 0 0),(5,.own 1 1 0 a.length),(6,mA (ax 4294967296 p.1.2.1)),(7,.int .i64 ((p.1.2.2:Int)-1))]) (fun p=>[(0,.live 2 [.agg [.sl 0 true [],.sl 0 true []]]),(1,.live 1 (uA .u32 p.1.1))]) (fun p=>p.1.2.2) ⟨(List.replicate a.length 0,0,a.length),by simp,fun x hx=>by rw [(List.mem_replicate.1 hx).2]; decide,h0,by simp,by simp,fun j _=>by simp [List.getElem?_replicate]; split<;>rfl⟩ [] (by simp) (fun _ _ _ _ h=>h) (by omega) (by simp -implicitDefEqProofs [go_sem]) (by simp -implicitDefEqProofs [go_sem]) fun ⟨⟨out,m,i⟩,q1,q2,q3,q4,q5,q6⟩=>?_
   simp only at q1 q2 q3 q4 q5 q6
   simp -implicitDefEqProofs [go_sem]
   refine ⟨fun hi0=>?_,fun hi0=>?_⟩
   ·obtain ⟨k,hik⟩:∃k,i=k+1:=⟨i-1,by omega⟩
    subst hik
    have ek:((k+1:Nat):Int)-1=(k:Nat):=by omega
    have g1:=bw .u32 (l:=a) (i:=k) (by omega)
    have hx:=la.getD (by omega) k
    have hko:k<out.length:=by omega
    have g2:=eI .u32 (l:=out) (i:=k) hko
    have hd:=kV 4294967296 (l:=a) (k:=k) (by omega)
    obtain ⟨x,hxx⟩:∃x,x=a.getD k 0:=⟨_,rfl⟩
    rw [←hxx] at hx g1 hd
    simp -implicitDefEqProofs [go_sem,ek,g1]
    refine ⟨by omega,?_⟩
    obtain ⟨r1,hr1⟩:∃r,r=x+4294967296*m:=⟨_,rfl⟩
    have hmV:(ax 4294967296 m).length≤b.length:=by rw [←hbe]; exact cU (by omega) (by omega)
    unfold cg at hb
    have lxm:bZ 4294967296 (x::ax 4294967296 m):=fun z hz=>by
     rcases List.mem_cons.1 hz with e|e
     ·subst e; exact hx
     ·exact ay (by omega) m z e
    have htl:=aT (B:=4294967296) (by omega) lxm
    rw [cD,aA (by omega),←hr1] at htl
    have hr2:lv 4294967296 (a.drop k)=V*(4294967296*lv 4294967296 (out.drop (k+1)))+r1:=by
     rw [hd,q5,hr1,Nat.mul_add,Nat.mul_left_comm]; omega
    have hrA:r1≤A:=by
     have:=Cm 4294967296 (by omega) a k
     omega
    have hrV:r1<V*4294967296:=by
     have:(m+1)*4294967296≤V*4294967296:=Nat.mul_le_mul_right _ q3
     omega
    refine ⟨by omega,cq [10] _ (dG (x::ax 4294967296 m) (by unfold dj; rw [List.length_cons]; omega)) (by simp -implicitDefEqProofs [go_sem]; rw [List.take_of_length_le (by simp; omega)]) (by simp -implicitDefEqProofs [go_sem]) (by simp -implicitDefEqProofs [go_sem]; omega) (by simp -implicitDefEqProofs [go_sem]) ?_⟩
    rw [htl]
    simp -implicitDefEqProofs [go_sem]
    refine ac (hcm r1 hrA) ?_
    have ek2:IntKind.i64.wrap ((k:Int)-1)=(k:Int)-1:=bS (by omega)
    have hok:=kV 4294967296 hko
    rcases Nat.lt_or_ge r1 V with h9|h9
    ·have hc9:cA r1 V<0:=by rw [eN (by omega)]; omega
     simp -implicitDefEqProofs [go_sem,hc9,ek2]
     refine ae ⟨(out,r1,k),q1,q2,h9,by simp only; omega,?_,fun j hj=>q6 j (Nat.lt_succ_of_lt hj)⟩ (by simp only; omega) [] (by simp) (fun _ _ _ _ h=>h) (by omega) (by simp -implicitDefEqProofs [go_sem]) (by simp -implicitDefEqProofs [go_sem])
     simp only
     rw [hok,q6 k (by omega),Nat.zero_add]; exact hr2
    ·have hc9:¬cA r1 V<0:=by
      rcases Nat.lt_or_ge V r1 with h|h
      ·rw [dI (by omega)]; omega
      ·rw [show r1=V by omega,is]; omega
     have hg9:=hgs r1 hrA h9 hrV
     have hdm:=Nat.div_add_mod r1 V
     have hlt9:=Nat.mod_lt r1 h0
     have iH:r1 / V<4294967296:=by rw [Nat.div_lt_iff_lt_mul h0,Nat.mul_comm]; exact hrV
     have hd0:0<r1 / V:=Nat.div_pos h9 h0
     obtain ⟨d,hdd⟩:∃d,d=r1 / V:=⟨_,rfl⟩
     rw [←hdd] at hg9 hdm iH hd0
     have hml9:=hml d iH
     rw [fD (B:=4294967296) (by omega) (by omega) iH] at hml9
     have hsb9:=hsb r1 (V*d) hrA (by omega)
     rw [show r1-V*d=r1%V by omega] at hsb9
     obtain ⟨r2,hr22⟩:∃d,d=r1%V:=⟨_,rfl⟩
     obtain ⟨vd,hvd⟩:∃e,e=V*d:=⟨_,rfl⟩
     rw [←hr22] at hsb9 hdm hlt9
     rw [←hvd] at hsb9 hml9 hdm
     simp -implicitDefEqProofs [go_sem,hc9]
     refine ac hg9 ?_
     simp -implicitDefEqProofs [go_sem,g2,dn]
     refine ⟨by omega,hko,cq [11] _ hml9 (by simp -implicitDefEqProofs [go_sem]) (by simp -implicitDefEqProofs [go_sem]) (by simp -implicitDefEqProofs [go_sem]) (by simp -implicitDefEqProofs [go_sem]) ?_⟩
     simp -implicitDefEqProofs [go_sem]
     refine ac hsb9 ?_
     simp -implicitDefEqProofs [go_sem,ek2]
     refine ae ⟨(out.set k d,r2,k),by simp [q1],q2.set iH k,hlt9,by simp only; omega,?_,fun j hj=>by simp only at hj; rw [getD_set_ne (by omega)]; exact q6 j (by omega)⟩ (by simp only; omega) [] (by simp) (fun _ _ _ _ h=>h) (by omega) (by simp -implicitDefEqProofs [go_sem]) (by simp -implicitDefEqProofs [go_sem])
     simp only
     have e9:(out.set k d).drop k=d::out.drop (k+1):=by
      rw [List.drop_eq_getElem_cons (by simpa using hko),List.drop_set_of_lt (by omega)]
      simp
     rw [e9,cD,hr2,Nat.mul_add V,←hdm,hvd]
     omega
   ·have hi:i=0:=by omega
    subst hi
    simp only [List.drop_zero] at q5
    have hQ:lv 4294967296 out=QQ:=by rw [hQQ,←hva,q5,Nat.mul_add_div (by omega),Nat.div_eq_of_lt q3,Nat.add_zero]
    have hR:m=RR:=by rw [hRR,←hva,q5,Nat.mul_add_mod,Nat.mod_eq_of_lt q3]
    refine cq [1] _ (dG out (by unfold dj; omega)) (by simp -implicitDefEqProofs [go_sem,←q1,dS]) (by simp -implicitDefEqProofs [go_sem]) (by simp -implicitDefEqProofs [go_sem,q1]) (by simp -implicitDefEqProofs [go_sem]) ?_
    rw [aT (by omega) q2,hQ,hR]
    simp -implicitDefEqProofs [go_sem,aL]
theorem B6 (A V:Nat) (ha:cg (ax 4294967296 A)) (hb:cg (ax 4294967296 V)):ag Tryz.prog 154 [qA A,qA V] (qA (Nat.gcd A V)):=by
 refine Pg Tryz.func154 rfl [.tmp 4] rfl (by simp -implicitDefEqProofs [go_sem,qA]) ?_
 unfold qA at *
 obtain ⟨g,hg⟩:∃g,g=Nat.gcd A V:=⟨_,rfl⟩
 rw [←hg]
 simp -implicitDefEqProofs [go_sem]
 refine ap 9 (α:={p:Nat×Nat // cg (ax 4294967296 p.1)∧cg (ax 4294967296 p.2)∧Nat.gcd p.1 p.2=g}) (fun p=>[(0,mA (ax 4294967296 p.1.1)),(1,mA (ax 4294967296 p.1.2))]) (fun p=>[]) (fun p=>p.1.2) ⟨(A,V),ha,hb,hg.symm⟩ [] (by simp) (by simp) (by simp) (by simp -implicitDefEqProofs [go_sem]) (by simp -implicitDefEqProofs [go_sem]) fun ⟨⟨x,y⟩,h1,h2,h3⟩=>?_
 simp only at h1 h2 h3
 simp -implicitDefEqProofs [go_sem]
 refine ⟨fun h=>?_,fun h=>?_⟩
 ·have hy:0<y:=by
   rcases Nat.eq_zero_or_pos y with hh|hh
   ·subst hh; rw [aW] at h; simp at h
   ·exact hh
  have hd:=iv x y h1 h2 hy
  unfold qA at hd
  have hlt:=Nat.mod_lt x hy
  obtain ⟨q,hq⟩:∃q,q=x / y:=⟨_,rfl⟩
  obtain ⟨r,hr⟩:∃q,q=x%y:=⟨_,rfl⟩
  rw [←hq,←hr] at hd
  rw [←hr] at hlt
  refine ac hd ?_
  simp -implicitDefEqProofs [go_sem]
  refine ae ⟨(y,r),h2,Nat.lt_of_le_of_lt (cU (by omega) (by simp only; omega)) h2,?_⟩ (by simp only; omega) [] (by simp) (by simp) (by simp) (by simp -implicitDefEqProofs [go_sem]) (by simp)
  simp only
  rw [←h3,hr,Nat.gcd_comm,←Nat.gcd_rec,Nat.gcd_comm]
 ·have hy:y=0:=by
   have:ax 4294967296 y=[]:=by
    cases hl:ax 4294967296 y with
    | nil=>rfl
    | cons c l=>rw [hl] at h; simp at h
   exact (bG (by omega)).1 this
  rw [hy,Nat.gcd_zero_right] at h3
  rw [h3]
theorem Mp {A:Nat} {out:List Nat} (l:bZ 18446744073709551616 out) (h:lv 18446744073709551616 out=A) (hl:2*out.length≤(ax 4294967296 A).length+1):out=ax 18446744073709551616 A:=by
 have h1:=aT (B:=18446744073709551616) (by omega) l
 rw [h] at h1
 have h2:=kG out
 have h3:(a_ out).length=out.length:=by
  rcases Nat.lt_or_ge (a_ out).length out.length with h4|h4
  ·exfalso
   by_cases h0:A=0
   ·subst h0
    rw [aW] at hl
    simp only [List.length_nil] at hl
    omega
   ·obtain ⟨bl,bt,e,hbt⟩:=h_ (B:=4294967296) (by omega) h0
    have hA:=aA (B:=4294967296) (by omega) A
    rw [e,ce,cD,eD,Nat.mul_zero,Nat.add_zero] at hA
    have h5:4294967296 ^ bl.length*1≤4294967296 ^ bl.length*bt:=Nat.mul_le_mul_left _ (Nat.pos_iff_ne_zero.2 hbt)
    have h6:=cN (B:=18446744073709551616) l.trim
    rw [iw,h,←D6] at h6
    rw [e,List.length_append,List.length_singleton] at hl
    have h7:4294967296 ^ (2*(a_ out).length)≤4294967296 ^ bl.length:=Nat.pow_le_pow_right (by omega) (by omega)
    generalize 4294967296 ^ (2*(a_ out).length)=u at *
    generalize 4294967296 ^ bl.length=w at *
    omega
  ·have:=gG out
   exact Nat.le_antisymm this h4
 rw [h3,List.take_length] at h2
 rw [←h1]
 exact h2
theorem Aw (A:Nat) (ha:cg (ax 4294967296 A)):ag Tryz.prog 203 [qA A] (nA (ax 18446744073709551616 A)):=by
 unfold cg at ha
 have hva:=aA (B:=4294967296) (by omega) A
 have la:=ay (B:=4294967296) (by omega) A
 have hoe:=fun out => @Mp A out
 unfold qA
 refine ag.of_ca (gv _) (Cg Tryz.func203 rfl [.tmp 2] rfl ?_)
 generalize ax 4294967296 A=a at *
 simp -implicitDefEqProofs [go_sem]
 refine ap 9 (α:={p:List Nat×Nat // p.2=2*p.1.length∧p.2≤a.length+1∧bZ 18446744073709551616 p.1∧lv 18446744073709551616 p.1=lv 4294967296 (a.take p.2)}) (fun p=>[(0,mA a),(3,di 1 8 (uA .u64 p.1.1)),(4,.int .i64 p.1.2)]) (fun p=>cR 1 8 (uA .u64 p.1.1)) (fun p=>a.length+1-p.1.2) ⟨([],0),by simp [fu]⟩ [] (by simp) (by simp [go_sem]) (by simp) (by simp -implicitDefEqProofs [go_sem]) (by simp [go_sem]) fun ⟨⟨out,i⟩,h1,h2,h3,h4⟩=>?_
 simp only at h1 h2 h3 h4
 simp -implicitDefEqProofs [go_sem]
 refine ⟨fun h=>?_,fun h=>?_⟩
 ·have hg:=bw .u32 (l:=a) (i:=i) (by omega)
  have hx:=la.getD (by omega) i
  have t1:=aR 4294967296 a i
  have t2:=aR 4294967296 a (i+1)
  obtain ⟨x,hxe⟩:∃x,x=a.getD i 0:=⟨_,rfl⟩
  rw [←hxe] at hg hx t1
  have e1:IntKind.u64.wrap (x:Int)=x:=cI (by omega)
  have e2:IntKind.i64.wrap ((i:Int)+1)=((i+1:Nat):Int):=by rw [bS (by omega)]; omega
  have e3:IntKind.i64.wrap ((i:Int)+2)=((i+2:Nat):Int):=by rw [bS (by omega)]; omega
  have hpw:4294967296 ^ i=18446744073709551616 ^ out.length:=by rw [h1,D6]
  rcases Nat.lt_or_ge (i+1) a.length with h5|h5
  ·have hg2:=bw .u32 (l:=a) (i:=i+1) (by omega)
   have hy:=la.getD (by omega) (i+1)
   obtain ⟨y,hye⟩:∃x,x=a.getD (i+1) 0:=⟨_,rfl⟩
   rw [←hye] at hg2 hy t2
   obtain ⟨i1,hi1⟩:∃j,j=i+1:=⟨_,rfl⟩
   rw [←hi1] at e2 hg2 h5
   have e4:IntKind.u64.wrap (y:Int)=y:=cI (by omega)
   have e5:IntKind.u64.wrap ((y:Int)*4294967296)=(y*4294967296:Nat):=by rw [cI (by omega)]; omega
   obtain ⟨y2,hy2⟩:∃j,j=y*4294967296:=⟨_,rfl⟩
   rw [←hy2] at e5
   have e6:IntKind.u64.wrap ((x:Int)+y2)=(x+y2:Nat):=lm (by omega)
   obtain ⟨z,hz⟩:∃j,j=x+y2:=⟨_,rfl⟩
   rw [←hz] at e6
   simp -implicitDefEqProofs [go_sem,hg,hg2,e1,e2,e4,e5,e6,h5]
   refine ⟨h,aI (by simp [go_sem]) (by omega) (by omega) (by simp [go_sem]) (by simp; omega) (fun hne=>by simp [go_sem,hne]) ?_⟩
   simp -implicitDefEqProofs [go_sem,e3]
   refine ae ⟨(out++[z],i+2),by simp [h1]; omega,by simp only; omega,bE.2 ⟨h3,fun w hw=>by simp at hw; omega⟩,?_⟩ (by simp only; omega) [(8,10)] (by simp) (by simp [go_sem,bo]) (by simp) (by simp -implicitDefEqProofs [go_sem,bo]) (by simp -implicitDefEqProofs [go_sem,bo])
   simp only
   rw [ce,h4,cD,eD,Nat.mul_zero,Nat.add_zero,←hpw,show i+2=i+1+1 by omega,t2,t1,hz,hy2,Nat.mul_add,Nat.pow_succ,Nat.mul_assoc,Nat.mul_comm y]
   omega
  ·have e7:¬(i+1:Nat)<a.length:=by omega
   have e8:¬((i+1:Nat):Int)<a.length:=by omega
   obtain ⟨i1,hi1⟩:∃j,j=i+1:=⟨_,rfl⟩
   rw [←hi1] at e2 e7 e8
   simp -implicitDefEqProofs [go_sem,hg,e1,e2,e7]
   refine ⟨h,aI (by simp [go_sem]) (by omega) (by omega) (by simp [go_sem]) (by simp; omega) (fun hne=>by simp [go_sem,hne]) ?_⟩
   simp -implicitDefEqProofs [go_sem,e3]
   refine ae ⟨(out++[x],i+2),by simp [h1]; omega,by simp only; omega,bE.2 ⟨h3,fun w hw=>by simp at hw; omega⟩,?_⟩ (by simp only; omega) [(8,10)] (by simp) (by simp [go_sem,bo]) (by simp) (by simp -implicitDefEqProofs [go_sem,bo]) (by simp -implicitDefEqProofs [go_sem,bo])
   simp only
   rw [ce,h4,cD,eD,Nat.mul_zero,Nat.add_zero,←hpw,←t1,List.take_of_length_le (by omega),List.take_of_length_le (by omega)]
 ·rw [List.take_of_length_le (by omega),hva] at h4
  have he:=hoe out h3 h4 (by omega)
  rw [←he]
  by_cases h0:out=[]
  ·subst h0
   simp -implicitDefEqProofs [go_sem,di]
   exact Wk.nil 0 1 true
  ·have hne:uA .u64 out≠[]:=by simpa [uA] using h0
   simp -implicitDefEqProofs [go_sem,aV hne,aC hne,dS]
   exact Wk.refl _
theorem Fw {A L:Nat} (h:(ax 18446744073709551616 A).length≤L):b_ A≤64*L:=by
 refine et ?_
 have:=cN (ay (B:=18446744073709551616) (by omega) A)
 rw [aA (by omega),D7] at this
 exact Nat.lt_of_lt_of_le this (Nat.pow_le_pow_right (by omega) (by omega))
theorem Fx {k L:Nat} (hk:k<64*L):(ax 18446744073709551616 (2 ^ k)).length≤L:=by
 refine cw (by omega) ?_
 rw [D7]
 exact Nat.pow_lt_pow_right (by omega) hk
theorem HR {k:Nat} (hk:k≤1048576):(ax 18446744073709551616 (2 ^ k)).length≤16385:=Fx (by omega)
theorem Fv {x y L:Nat} (hx:(ax 18446744073709551616 x).length≤L) (hy:(ax 18446744073709551616 y).length≤L):(ax 18446744073709551616 (x+y)).length≤L+1:=by
 have hm:x+y<18446744073709551616 ^ (L+1):=by
  have g1:=cN (ay (B:=18446744073709551616) (by omega) x)
  have g2:=cN (ay (B:=18446744073709551616) (by omega) y)
  rw [aA (by omega)] at g1 g2
  have g3:18446744073709551616 ^ (ax 18446744073709551616 x).length≤18446744073709551616 ^ L:=Nat.pow_le_pow_right (by omega) hx
  have g4:18446744073709551616 ^ (ax 18446744073709551616 y).length≤18446744073709551616 ^ L:=Nat.pow_le_pow_right (by omega) hy
  have g5:18446744073709551616 ^ (L+1)=18446744073709551616 ^ L*18446744073709551616:=Nat.pow_succ ..
  generalize 18446744073709551616 ^ L=P at *
  omega
 exact cw (B:=18446744073709551616) (by omega) hm
theorem F9 (A:Nat) (hA:(ax 18446744073709551616 A).length≤16384):ag Tryz.prog 341 [nA (ax 18446744073709551616 A)] (nA (ax 18446744073709551616 (j_ A))):=by
 have hAl:cg (ax 18446744073709551616 A):=by unfold cg; omega
 have ta:=bD (ax 18446744073709551616 A) hAl.x
 rw [aT (by omega) (ay (by omega) _),aA (by omega)] at ta
 by_cases h0:A=0
 ·subst h0
  rw [show j_ 0=0 by rfl,aW] at *
  refine (ag.of_go (r := .sl 0 true []) lZ Tryz.func341 rfl (rs:=[.tmp 2]) rfl (by kernel_rfl) (by simp -implicitDefEqProofs [go_sem]) ?_).weaken (Wk.nil 0 1 true)
  simp -implicitDefEqProofs [go_sem]
  refine ac ta ?_
  simp -implicitDefEqProofs [go_sem]
 ·have hne:ax 18446744073709551616 A≠[]:=fun h=>h0 ((bG (by omega)).1 h)
  have hb:=uO (ax 18446744073709551616 A) hAl (ay (by omega) _)
  rw [aA (by omega)] at hb
  have hbl:=Fw hA
  obtain ⟨b,hbb⟩:∃b,b=b_ A:=⟨_,rfl⟩
  obtain ⟨k,hk⟩:∃k,k=(b+1) / 2:=⟨_,rfl⟩
  have e1:IntKind.i64.wrap ((b:Int)+1)=(b:Int)+1:=bS (by omega)
  have e2:((b:Int)+1).tdiv 2=k:=by rw [Int.tdiv_eq_ediv_of_nonneg (by omega)]; omega
  have e2':IntKind.i64.wrap (((b:Int)+1) / 2)=k:=by rw [bS (by omega)]; omega
  have e3:IntKind.i64.wrap (k:Int)=k:=bS (by omega)
  have ho:=of_pure 1 (by omega)
  have hs:=wi (ax 18446744073709551616 1) k (by omega) (by have:=cw (B:=18446744073709551616) (n:=1) (k:=1) (by omega) (by decide); unfold cg; omega) (ay (by omega) _)
  rw [aA (by omega),Nat.one_mul] at hs
  have hlt:j_ A<2 ^ k:=by rw [hk,hbb]; exact tc (ml A)
  have hX:=HR (k:=k) (by omega)
  generalize 2 ^ k=X0 at *
  rw [←hbb] at hb
  refine Pg Tryz.func341 rfl [.tmp 2] rfl (gv _) ?_
  simp -implicitDefEqProofs [go_sem]
  refine ac ta ?_
  simp -implicitDefEqProofs [go_sem,hne]
  refine ac ho ?_
  simp -implicitDefEqProofs [go_sem]
  refine ac hb ?_
  simp -implicitDefEqProofs [go_sem,e1,e2,e2',e3]
  refine ac hs ?_
  simp -implicitDefEqProofs [go_sem]
  refine ap 9 (α:={x:Nat // 0<x∧j_ A≤x∧x≤X0}) (fun x=>[(0,nA (ax 18446744073709551616 A)),(3,nA (ax 18446744073709551616 x.1))]) (fun x=>[]) (fun x=>x.1) ⟨X0,by omega,by omega,by omega⟩ [] (by simp) (by simp) (by simp) (by simp -implicitDefEqProofs [go_sem]) (by simp) fun ⟨x,h1,h2,h3⟩=>?_
  have hxl:(ax 18446744073709551616 x).length≤16385:=Nat.le_trans (cU (by omega) h3) hX
  have hxL:cg (ax 18446744073709551616 x):=by unfold cg; omega
  have hd:=iD (ax 18446744073709551616 A) (ax 18446744073709551616 x) hAl hxL (ay (by omega) _) (ay (by omega) _) (by rw [aA (by omega)]; omega)
  rw [aA (by omega),aA (by omega)] at hd
  have hql:cg (ax 18446744073709551616 (A / x)):=by
   unfold cg
   have:=cU (B:=18446744073709551616) (by omega) (Nat.div_le_self A x)
   omega
  have hadd:=rT (ax 18446744073709551616 x) (ax 18446744073709551616 (A / x)) hxL hql (ay (by omega) _) (ay (by omega) _)
  rw [aA (by omega),aA (by omega)] at hadd
  have hsl:(ax 18446744073709551616 (x+A / x)).length≤16386:=Fv hxl (Nat.le_trans (cU (B:=18446744073709551616) (by omega) (Nat.div_le_self A x)) (by omega))
  have hsh:=AY (ax 18446744073709551616 (x+A / x)) 1 (by omega) (by omega) (ay (by omega) _)
  rw [aA (by omega),Nat.pow_one] at hsh
  have n1:=FE (n:=A) h1
  have n2:=Cq (n:=A) h1
  obtain ⟨y,hy⟩:∃y,y=(x+A / x) / 2:=⟨_,rfl⟩
  rw [←hy] at hsh n1 n2
  simp -implicitDefEqProofs [go_sem]
  refine ac hd ?_
  simp -implicitDefEqProofs [go_sem]
  refine ac hadd ?_
  simp -implicitDefEqProofs [go_sem]
  refine ac hsh ?_
  simp -implicitDefEqProofs [go_sem]
  have hyl:y≤x→cg (ax 18446744073709551616 y):=fun h=>by
   unfold cg
   have:=cU (B:=18446744073709551616) (by omega) h
   omega
  have hyL:cg (ax 18446744073709551616 y):=by
   unfold cg
   have:=cU (B:=18446744073709551616) (by omega) (show y≤x+A / x by omega)
   omega
  have hc:=lz (ax 18446744073709551616 y) (ax 18446744073709551616 x) hyL hxL (ay (by omega) _) (ay (by omega) _)
  rw [aA (by omega),aA (by omega)] at hc
  refine ac hc ?_
  have hcc:decide ((0:Int)≤cA y x)=decide (x≤y):=by
   rw [decide_eq_decide]; unfold cA; split
   ·omega
   ·split<;>omega
  generalize cA y x=c at *
  simp -implicitDefEqProofs [go_sem,hcc]
  have hpos:0<j_ A:=by
   rcases Nat.eq_zero_or_pos (j_ A) with h|h
   ·have:=(gh A).2; rw [h] at this; omega
   ·exact h
  refine ⟨fun h=>?_,fun h=>?_⟩
  ·have:x=j_ A:=by
    have:=n2 (by simpa [hcc] using h)
    omega
   rw [this]
  ·have hlt2:y<x:=by
    by_cases hh:x≤y
    ·exact absurd hh (by simpa [hcc] using h)
    ·omega
   exact ae ⟨y,by omega,n1,by omega⟩ (by simp only; omega) [] (by simp) (by simp) (by simp) (by simp -implicitDefEqProofs [go_sem]) (by simp)
structure ZR where
 neg:Bool
 n:List Nat
def fR (neg:Bool) (x:Nat):Int:=if neg then -(x:Int) else x
def ZR.av (z:ZR):AV := .agg [.bool z.neg,nA z.n]
def ZR.val (z:ZR):Int:=fR z.neg (lv 18446744073709551616 z.n)
structure ZR.Ok (z:ZR):Prop where
 len:cg z.n
 lim:bZ 18446744073709551616 z.n
def zc (x:Int):ZR:=⟨decide (x<0),ax 18446744073709551616 x.natAbs⟩
def zA (x:Int):AV:=(zc x).av
def nl (x:Nat):Nat:=(ax 18446744073709551616 x).length
def pt (x:Nat):Prop:=cg (ax 18446744073709551616 x)
theorem d_ {x:Nat}:pt x↔nl x<1099511627776:=Iff.rfl
theorem cO (x:Int):(zc x).val=x:=by
 unfold ZR.val zc fR
 simp only [aA (B:=18446744073709551616) (by omega),decide_eq_true_eq]
 split<;>omega
theorem iW {x:Int} (h:pt x.natAbs):(zc x).Ok:=⟨h,ay (by omega) _⟩
theorem dO (b:Bool) (x:Nat):(fR b x).natAbs=x:=by unfold fR; split<;>omega
theorem yd (b:Bool) (x:Nat):decide (fR b x<0)=(b && decide (0<x)):=by
 unfold fR
 cases b<;>simp<;>omega
theorem M2 (b:Bool) (x:Nat):zA (fR b x) = .agg [.bool (b && decide (0<x)),nA (ax 18446744073709551616 x)]:=by
 unfold zA zc ZR.av; simp only [dO,yd]
theorem Mj {x:Nat}:decide (0<(ax 18446744073709551616 x).length)=decide (0<x):=by
 congr 1
 rw [List.length_pos_iff,ne_eq,bG (by omega),Nat.pos_iff_ne_zero]
theorem qF (x:Int):ro (zA x):=by unfold zA ZR.av; simp -implicitDefEqProofs [go_sem]
theorem P6 (z:ZR):ro z.av:=by unfold ZR.av; simp -implicitDefEqProofs [go_sem]
theorem fG (neg:Bool) (n:List Nat) (hn:cg n) (ln:bZ 18446744073709551616 n):ag Tryz.prog 162 [.bool neg,nA n] (zA (fR neg (lv 18446744073709551616 n))):=by
 have ha:=rT n [] hn (by unfold cg; simp) ln fu
 rw [eD,Nat.add_zero] at ha
 refine Pg Tryz.func162 rfl [.cell 4 25] rfl (qF _) ?_
 rw [M2]
 simp -implicitDefEqProofs [go_sem]
 refine ac (ha.args (.cons (Wk.refl _) (.cons (Wk.nil 0 1 true) .nil))) ?_
 have hp:=Mj (x:=lv 18446744073709551616 n)
 generalize lv 18446744073709551616 n=x at *
 simp -implicitDefEqProofs [go_sem,aL]
 refine ⟨fun h=>by rw [hp,h]; rfl,fun h h2=>by rw [h] at h2; cases h2⟩
theorem jB (z:ZR) (hz:z.Ok):ag Tryz.prog 167 [z.av] (zA z.val):=by
 obtain ⟨neg,n⟩:=z
 have hm:=fG neg n hz.len hz.lim
 refine Pg Tryz.func167 rfl [.cell 2 25] rfl (qF _) ?_
 unfold ZR.val
 simp only
 obtain ⟨y,hy⟩:∃y,y=fR neg (lv 18446744073709551616 n):=⟨_,rfl⟩
 rw [←hy] at hm ⊢
 simp -implicitDefEqProofs [go_sem,ZR.av]
 refine ac hm ?_
 simp -implicitDefEqProofs [go_sem,aL,zA,ZR.av]
theorem Ef (b:Bool) (x:Nat):fR (!b) x = -(fR b x):=by unfold fR; cases b<;>simp
theorem wE (z:ZR) (hz:z.Ok):ag Tryz.prog 159 [z.av] (zA (-z.val)):=by
 obtain ⟨neg,n⟩:=z
 have hm:=fG (!neg) n hz.len hz.lim
 rw [Ef] at hm
 refine Pg Tryz.func159 rfl [.cell 2 25] rfl (qF _) ?_
 unfold ZR.val
 simp only
 obtain ⟨y,hy⟩:∃y,y = -fR neg (lv 18446744073709551616 n):=⟨_,rfl⟩
 rw [←hy] at hm ⊢
 simp -implicitDefEqProofs [go_sem,ZR.av]
 refine ac hm ?_
 simp -implicitDefEqProofs [go_sem,aL,zA,ZR.av]
theorem Bl (v:Int) (h : -9223372036854775808≤v∧v≤9223372036854775807):ag Tryz.prog 85 [.int .i64 v] (zA v):=by
 refine Pg Tryz.func85 rfl [.cell 2 25] rfl (qF _) ?_
 have hof:=of_pure v.natAbs (by omega)
 have hlen:cg (ax 18446744073709551616 v.natAbs):=by unfold cg; have:=cw (B:=18446744073709551616) (n:=v.natAbs) (k:=1) (by omega) (by omega); omega
 have h1:=fG true (ax 18446744073709551616 v.natAbs) hlen (ay (by omega) _)
 have h2:=fG false (ax 18446744073709551616 v.natAbs) hlen (ay (by omega) _)
 rw [aA (by omega)] at h1 h2
 simp -implicitDefEqProofs [go_sem]
 refine ⟨fun h0=>?_,fun h0=>?_⟩
 ·have e1:IntKind.u64.wrap (IntKind.u64.wrap (IntKind.i64.wrap (-IntKind.i64.wrap (v+1)))+1)=(v.natAbs:Nat):=by
   rw [bS (x:=v+1) (by omega),bS (by omega),cI (x := -(v+1)) (by omega),cI (by omega)]; omega
  rw [e1]
  have e2:fR true v.natAbs=v:=by unfold fR; simp only [if_true]; omega
  rw [e2] at h1
  refine ac hof ?_
  simp -implicitDefEqProofs [go_sem]
  refine ac h1 ?_
  simp -implicitDefEqProofs [go_sem,aL,zA,ZR.av]
 ·have e1:IntKind.u64.wrap v=(v.natAbs:Nat):=by rw [cI (by omega)]; omega
  rw [e1]
  have e2:fR false v.natAbs=v:=by unfold fR; simp only [Bool.false_eq_true,if_false]; omega
  rw [e2] at h2
  refine ac hof ?_
  simp -implicitDefEqProofs [go_sem]
  refine ac h2 ?_
  simp -implicitDefEqProofs [go_sem,aL,zA,ZR.av]
theorem ye (b c:Bool) (x y:Nat):fR (b != c) (x*y)=fR b x*fR c y:=by
 unfold fR
 cases b<;>cases c<;>simp [Int.natCast_mul,Int.neg_mul,Int.mul_neg]
theorem Gm (a b:ZR) (ha:a.Ok) (hb:b.Ok) (hab:pt (a.val*b.val).natAbs):ag Tryz.prog 89 [a.av,b.av] (zA (a.val*b.val)):=by
 obtain ⟨na,a⟩:=a
 obtain ⟨nb,b⟩:=b
 have h1:=Al a b ha.len hb.len ha.lim hb.lim
 unfold ZR.val at *
 simp only at *
 rw [←ye,dO] at hab
 have hm:=fG (na != nb) _ hab (ay (by omega) _)
 rw [aA (by omega),ye] at hm
 refine Pg Tryz.func89 rfl [.cell 4 25] rfl (qF _) ?_
 generalize fR na (lv 18446744073709551616 a)*fR nb (lv 18446744073709551616 b)=y at *
 generalize lv 18446744073709551616 a*lv 18446744073709551616 b=xy at *
 simp -implicitDefEqProofs [go_sem,ZR.av]
 refine aa h1 ?_
 simp -implicitDefEqProofs [go_sem]
 refine aa (show ag Tryz.prog 162 [.bool (!(na == nb)),nA (ax 18446744073709551616 xy)] (zA y) from hm) ?_
 simp -implicitDefEqProofs [go_sem,aL,zA,ZR.av]
theorem dN {x y:Nat} (h:x≤y):nl x≤nl y:=cU (by omega) h
theorem pt.mono {x y:Nat} (hy:pt y) (h:x≤y):pt x:=Nat.lt_of_le_of_lt (dN h) hy
theorem o8 (b:Bool):fR b 0=0:=by unfold fR; cases b<;>rfl
theorem oZ (x:Int):fR (decide (x<0)) x.natAbs=x:=by
 unfold fR; simp only [decide_eq_true_eq]; split<;>omega
theorem mT (a b:ZR) (ha:a.Ok) (hb:b.Ok) (hab:pt (a.val.natAbs+b.val.natAbs)):ag Tryz.prog 161 [a.av,b.av] (zA (a.val+b.val)):=by
 have ga:=jB a ha
 have gb:=jB b hb
 have fa:pt a.val.natAbs:=hab.mono (by omega)
 have fb:pt b.val.natAbs:=hab.mono (by omega)
 unfold ZR.av at ga gb ⊢
 generalize a.val=x at *
 generalize b.val=y at *
 obtain ⟨na,a⟩:=a
 obtain ⟨nb,b⟩:=b
 have la:=ay (B:=18446744073709551616) (by omega) x.natAbs
 have lb:=ay (B:=18446744073709551616) (by omega) y.natAbs
 have va:=aA (B:=18446744073709551616) (by omega) x.natAbs
 have vb:=aA (B:=18446744073709551616) (by omega) y.natAbs
 have hadd:=rT _ _ fa fb la lb
 rw [va,vb] at hadd
 have hmk:=fun neg (k:Nat) (hk:k≤x.natAbs+y.natAbs)=>fG neg (ax 18446744073709551616 k) (hab.mono hk) (ay (by omega) _)
 simp only [aA (B:=18446744073709551616) (by omega)] at hmk
 have hcmp:=lz _ _ fa fb la lb
 rw [va,vb] at hcmp
 have hsub1:=A7 _ _ fa fb la lb
 have hsub2:=A7 _ _ fb fa lb la
 rw [va,vb] at hsub1 hsub2
 refine Pg Tryz.func161 rfl [.cell 4 25] rfl (qF _) ?_
 simp -implicitDefEqProofs [go_sem]
 refine aa ga ?_
 simp -implicitDefEqProofs [go_sem,zA,ZR.av,zc]
 refine aa gb ?_
 simp -implicitDefEqProofs [go_sem,zA,ZR.av,zc]
 refine ⟨fun h=>?_,fun h=>?_⟩
 ·have hm:=hmk (decide (x<0)) _ (Nat.le_refl _)
  rw [show fR (decide (x<0)) (x.natAbs+y.natAbs)=x+y by unfold fR; simp only [decide_eq_true_eq]; split<;>omega] at hm
  generalize x.natAbs+y.natAbs=s at *
  refine aa hadd ?_
  simp -implicitDefEqProofs [go_sem,zA,ZR.av,zc]
  refine aa hm ?_
  simp -implicitDefEqProofs [go_sem,aL,zA,ZR.av,zc]
 ·refine ac hcmp ?_
  rcases Nat.lt_or_ge x.natAbs y.natAbs with h1|h1
  ·have hc:cA x.natAbs y.natAbs<0:=by rw [eN (by omega)]; omega
   have hm:=hmk (decide (y<0)) (y.natAbs-x.natAbs) (by omega)
   rw [show fR (decide (y<0)) (y.natAbs-x.natAbs)=x+y by unfold fR; simp only [decide_eq_true_eq]; split<;>omega] at hm
   have hs:=hsub2 (by omega)
   generalize y.natAbs-x.natAbs=s at *
   generalize cA x.natAbs y.natAbs=c at *
   simp -implicitDefEqProofs [go_sem,zA,ZR.av,zc,hc]
   refine ac hs ?_
   simp -implicitDefEqProofs [go_sem,zA,ZR.av,zc]
   refine ac hm ?_
   simp -implicitDefEqProofs [go_sem,aL,zA,ZR.av,zc]
  ·have hc:¬cA x.natAbs y.natAbs<0:=by
    rcases Nat.lt_or_ge y.natAbs x.natAbs with h|h
    ·rw [dI (by omega)]; omega
    ·rw [show x.natAbs=y.natAbs by omega,is]; omega
   have hm:=hmk (decide (x<0)) (x.natAbs-y.natAbs) (by omega)
   rw [show fR (decide (x<0)) (x.natAbs-y.natAbs)=x+y by unfold fR; simp only [decide_eq_true_eq]; split<;>omega] at hm
   have hs:=hsub1 h1
   generalize x.natAbs-y.natAbs=s at *
   generalize cA x.natAbs y.natAbs=c at *
   simp -implicitDefEqProofs [go_sem,zA,ZR.av,zc,hc]
   refine ac hs ?_
   simp -implicitDefEqProofs [go_sem,zA,ZR.av,zc]
   refine ac hm ?_
   simp -implicitDefEqProofs [go_sem,aL,zA,ZR.av,zc]
theorem wF (a b:ZR) (ha:a.Ok) (hb:b.Ok) (hab:pt (a.val.natAbs+b.val.natAbs)):ag Tryz.prog 165 [a.av,b.av] (zA (a.val-b.val)):=by
 have hn:=wE b hb
 have fb:pt (-b.val).natAbs:=hab.mono (by omega)
 have h2:=mT a (zc (-b.val)) ha (iW fb) (by rw [cO]; exact hab.mono (by omega))
 rw [cO,←Int.sub_eq_add_neg] at h2
 generalize a.val-b.val=y at *
 refine Pg Tryz.func165 rfl [.cell 4 25] rfl (qF _) ?_
 change ag _ _ [a.av,zA (-b.val)] _ at h2
 generalize -b.val=z at *
 unfold zA at *
 unfold ZR.av at *
 simp -implicitDefEqProofs [go_sem]
 refine aa hn ?_
 simp -implicitDefEqProofs [go_sem]
 refine aa h2 ?_
 simp -implicitDefEqProofs [go_sem,aL]
@[go_sem] theorem Q6:lX Tryz.prog 250=some .i64:=by kernel_rfl
theorem C9 (x:Int):ag Tryz.prog 168 [.agg [.bool (decide (x<0)),nA (ax 18446744073709551616 x.natAbs)]] (.bool (decide (x<0))):=by
 refine Pg Tryz.func168 rfl [.tmp 2] rfl (by simp -implicitDefEqProofs [go_sem]) ?_
 simp -implicitDefEqProofs [go_sem]
theorem Bk (x:Int):ag Tryz.prog 169 [.agg [.bool (decide (x<0)),nA (ax 18446744073709551616 x.natAbs)]] (.bool (decide (x=0))):=by
 refine Pg Tryz.func169 rfl [.tmp 2] rfl (by simp -implicitDefEqProofs [go_sem]) ?_
 have h:ax 18446744073709551616 x.natAbs=[]↔x=0:=by rw [bG (by omega)]; omega
 simp -implicitDefEqProofs [go_sem,h]
def ik (x:Int):Int:=if x<0 then -1 else if x=0 then 0 else 1
theorem n_ (z:ZR) (hz:z.Ok):ag Tryz.prog 93 [z.av] (.int .i64 (ik z.val)):=by
 have hg:=jB z hz
 have h1:=C9 z.val
 have h2:=Bk z.val
 generalize z.val=x at *
 refine Pg Tryz.func93 rfl [.tmp 2] rfl (by simp -implicitDefEqProofs [go_sem]) ?_
 unfold zA at *
 unfold ZR.av at *
 unfold zc at *
 simp only at *
 generalize ax 18446744073709551616 x.natAbs=L at *
 simp -implicitDefEqProofs [go_sem]
 refine ac hg ?_
 simp -implicitDefEqProofs [go_sem]
 obtain ⟨N,hN⟩:∃N,N=AV.agg [AV.bool (decide (x<0)),nA L]:=⟨_,rfl⟩
 have hroN:ro N:=by rw [hN]; simp -implicitDefEqProofs [go_sem]
 obtain ⟨T,hT⟩:∃T,T=aH (aH (aH (fun _=>AV.any) 0 (.fn (.func 168) [N] [])) 1 (.fn (.func 169) [N] [])) 2 (.fn (.func 170) [N] []):=⟨_,rfl⟩
 have hro:∀j,ro (T j):=by
  intro j
  rw [hT]
  simp only [aH]
  split
  ·simp -implicitDefEqProofs [go_sem,hroN]
  ·split
   ·simp -implicitDefEqProofs [go_sem,hroN]
   ·split<;>simp -implicitDefEqProofs [go_sem,hroN]
 have T0:T 0 = .fn (.func 168) [N] []:=by rw [hT]; simp -implicitDefEqProofs [go_sem]
 have T1:T 1 = .fn (.func 169) [N] []:=by rw [hT]; simp -implicitDefEqProofs [go_sem]
 rw [←hN] at h1 h2
 refine ap 9 (α:={s:Nat // s≤2∧(1≤s→¬x<0)∧(2≤s→x≠0)}) (fun s=>[(4,.mp 2),(5,.int .i64 ((s.1:Int)-1))]) (fun s=>[(2,.obj (.map #[⟨.int .i64 (-1),undef,0⟩,⟨.int .i64 0,undef,1⟩,⟨.int .i64 1,undef,2⟩] 3) T)]) (fun s=>2-s.1) ⟨0,by omega,by omega,by omega⟩ [] (by simp) (by simp) (by omega) (by simp -implicitDefEqProofs [go_sem]) (by simp -implicitDefEqProofs [go_sem,hT,hN]; exact fun j=>by have:=hro j; rw [hT,hN] at this; exact this) fun ⟨s,q1,q2,q3⟩=>?_
 have hs:s=0∨s=1∨s=2:=by omega
 rcases hs with rfl|rfl|rfl
 ·simp -implicitDefEqProofs [go_sem,T0]
  refine ah _ h1 (by simp [go_sem,hroN]) ?_
  simp -implicitDefEqProofs [go_sem]
  refine ⟨fun h=>?_,fun h=>?_⟩
  ·simp [ik,h]
  ·exact ae ⟨1,by omega,fun _=>by omega,by omega⟩ (by simp only; omega) [] (by simp) (by simp) (by omega) (by simp -implicitDefEqProofs [go_sem]; rfl) (by simp -implicitDefEqProofs [go_sem,hro])
 ·simp -implicitDefEqProofs [go_sem,T1]
  refine ah _ h2 (by simp [go_sem,hroN]) ?_
  simp -implicitDefEqProofs [go_sem]
  refine ⟨fun h=>?_,fun h=>?_⟩
  ·simp [ik,h]
  ·exact ae ⟨2,by omega,fun _=>q2 (by omega),fun _=>h⟩ (by simp only; omega) [] (by simp) (by simp) (by omega) (by simp -implicitDefEqProofs [go_sem]; rfl) (by simp -implicitDefEqProofs [go_sem,hro])
 ·simp -implicitDefEqProofs [go_sem]
  have g1:=q2 (by omega)
  have g2:=q3 (by omega)
  simp [ik,g1,g2]
theorem AX {x y:Int}:ik (x-y)=cA x y:=by
 unfold ik cA; split<;>split<;>(try split)<;>omega
theorem Gl (a b:ZR) (ha:a.Ok) (hb:b.Ok) (hab:pt (a.val.natAbs+b.val.natAbs)):ag Tryz.prog 88 [a.av,b.av] (.int .i64 (cA a.val b.val)):=by
 have h1:=wF a b ha hb hab
 have h2:=n_ (zc (a.val-b.val)) (iW (hab.mono (by omega)))
 rw [cO,AX] at h2
 generalize cA a.val b.val=c at *
 change ag _ _ [zA (a.val-b.val)] _ at h2
 generalize a.val-b.val=z at *
 refine Pg Tryz.func88 rfl [.tmp 4] rfl (by simp -implicitDefEqProofs [go_sem]) ?_
 unfold zA at *
 unfold ZR.av at *
 simp -implicitDefEqProofs [go_sem]
 refine ac h1 ?_
 simp -implicitDefEqProofs [go_sem]
 refine ac h2 ?_
 simp -implicitDefEqProofs [go_sem]
structure RQ where
 neg:Bool
 p:List Nat
 q:List Nat
def RQ.av (z:RQ):AV := .agg [.bool z.neg,nA z.p,nA z.q]
def RQ.num (z:RQ):Int:=fR z.neg (lv 18446744073709551616 z.p)
def RQ.den (z:RQ):Nat:=if lv 18446744073709551616 z.q=0 then 1 else lv 18446744073709551616 z.q
def RQ.val (z:RQ):Rat:=mkRat z.num z.den
structure RQ.Ok (z:RQ):Prop where
 lenp:cg z.p
 limp:bZ 18446744073709551616 z.p
 lenq:cg z.q
 limq:bZ 18446744073709551616 z.q
def qc (x:Rat):RQ:=⟨decide (x.num<0),ax 18446744073709551616 x.num.natAbs,ax 18446744073709551616 x.den⟩
def rA (x:Rat):AV:=(qc x).av
theorem dD (x:Rat):ro (rA x):=by unfold rA RQ.av; simp -implicitDefEqProofs [go_sem]
theorem wc (z:RQ):ro z.av:=by unfold RQ.av; simp -implicitDefEqProofs [go_sem]
theorem Mu (x:Rat):(qc x).num=x.num:=by
 unfold RQ.num qc; simp only [aA (B:=18446744073709551616) (by omega)]; exact oZ _
theorem Mt (x:Rat):(qc x).den=x.den:=by
 unfold RQ.den qc; simp only [aA (B:=18446744073709551616) (by omega)]
 rw [if_neg x.den_nz]
theorem br (x:Rat):(qc x).val=x:=by
 unfold RQ.val; rw [Mu,Mt]; exact Rat.mkRat_self x
structure FitQ (x:Rat):Prop where
 num:pt x.num.natAbs
 den:pt x.den
theorem tu (n:Int) {d:Nat} (h:d≠0):(mkRat n d).num=n / (Nat.gcd n.natAbs d:Nat):=by
 rw [←Rat.normalize_eq_mkRat h,Rat.normalize_eq]
theorem xJ (n:Int) {d:Nat} (h:d≠0):(mkRat n d).den=d / Nat.gcd n.natAbs d:=by
 rw [←Rat.normalize_eq_mkRat h,Rat.normalize_eq]
theorem Ee (b:Bool) {x g:Nat} (h:g ∣ x):fR b (x / g)=fR b x / (g:Int):=by
 unfold fR
 cases b
 ·simp
 ·simp only [if_true]
  rw [Int.neg_ediv_of_dvd (Int.natCast_dvd_natCast.2 h)]; simp
theorem vO (z:ZR) (q:List Nat) (hz:z.Ok) (hq:cg q) (lq:bZ 18446744073709551616 q) (h0:lv 18446744073709551616 q≠0):ag Tryz.prog 160 [z.av,nA q] (rA (mkRat z.val (lv 18446744073709551616 q))):=by
 obtain ⟨neg,p⟩:=z
 have hlp:=hz.len
 have hll:=hz.lim
 simp only at hlp hll
 have hg:=Hb p q hlp hq hll lq
 obtain ⟨g,hgg⟩:∃g,g=Nat.gcd (lv 18446744073709551616 p) (lv 18446744073709551616 q):=⟨_,rfl⟩
 have hg0:g≠0:=by rw [hgg]; exact Nat.gcd_ne_zero_right h0
 have hgp:g ∣ lv 18446744073709551616 p:=by rw [hgg]; exact Nat.gcd_dvd_left _ _
 have hgl:g≤lv 18446744073709551616 q:=by rw [hgg]; exact Nat.le_of_dvd (Nat.pos_iff_ne_zero.2 h0) (Nat.gcd_dvd_right _ _)
 have hfq:pt (lv 18446744073709551616 q):=dU hq lq
 have hfp:pt (lv 18446744073709551616 p):=dU hlp hll
 have hd1:=iD p (ax 18446744073709551616 g) hlp (hfq.mono hgl) hll (ay (by omega) _) (by rw [aA (by omega)]; exact hg0)
 have hd2:=iD q (ax 18446744073709551616 g) hq (hfq.mono hgl) lq (ay (by omega) _) (by rw [aA (by omega)]; exact hg0)
 rw [aA (by omega)] at hd1 hd2
 rw [←hgg] at hg
 have ha:=mT ⟨neg,ax 18446744073709551616 (lv 18446744073709551616 p / g)⟩ ⟨false,[]⟩ ⟨hfp.mono (Nat.div_le_self _ _),ay (by omega) _⟩ ⟨by unfold cg; simp,fu⟩ (by
  unfold ZR.val
  simp only [aA (B:=18446744073709551616) (by omega),eD,dO]
  exact hfp.mono (Nat.div_le_self _ _))
 have hv:ZR.val ⟨neg,ax 18446744073709551616 (lv 18446744073709551616 p / g)⟩+ZR.val ⟨false,[]⟩=(mkRat (fR neg (lv 18446744073709551616 p)) (lv 18446744073709551616 q)).num:=by
  rw [tu _ h0,dO,←hgg,←Ee neg hgp]
  unfold ZR.val
  simp only [aA (B:=18446744073709551616) (by omega),eD,o8,Int.add_zero]
 have hvd:(mkRat (fR neg (lv 18446744073709551616 p)) (lv 18446744073709551616 q)).den=lv 18446744073709551616 q / g:=by
  rw [xJ _ h0,dO,←hgg]
 rw [hv] at ha
 unfold rA RQ.av qc ZR.val
 simp only
 rw [hvd]
 generalize (mkRat (fR neg (lv 18446744073709551616 p)) (lv 18446744073709551616 q)).num=N at *
 generalize lv 18446744073709551616 q / g=D at *
 generalize lv 18446744073709551616 p / g=U at *
 generalize lv 18446744073709551616 p%g=U1 at *
 generalize lv 18446744073709551616 q%g=D1 at *
 unfold zA ZR.av zc at *
 simp only at *
 refine Pg Tryz.func160 rfl [.cell 4 27] rfl (by simp -implicitDefEqProofs [go_sem]) ?_
 simp -implicitDefEqProofs [go_sem]
 refine ac hg ?_
 simp -implicitDefEqProofs [go_sem]
 refine ac hd1 ?_
 simp -implicitDefEqProofs [go_sem]
 refine ac hd2 ?_
 simp -implicitDefEqProofs [go_sem]
 refine ac (ha.args (.cons (Wk.refl _) (.cons (Wk.agg (.cons (Wk.refl _) (.cons (Wk.nil 0 1 true) .nil))) .nil))) ?_
 simp -implicitDefEqProofs [go_sem,aL]
theorem Ik (x:Int):rA (x:Rat) = .agg [.bool (decide (x<0)),nA (ax 18446744073709551616 x.natAbs),nA (ax 18446744073709551616 1)]:=by
 have h:qc (x:Rat)=⟨decide (x<0),ax 18446744073709551616 x.natAbs,ax 18446744073709551616 1⟩:=by
  have h1:(x:Rat).num=x:=Rat.num_intCast x
  have h2:(x:Rat).den=1:=Rat.den_intCast x
  unfold qc
  rw [h1,h2]
 unfold rA; rw [h]; rfl
theorem C7 (x:Int):ag Tryz.prog 86 [zA x] (rA (x:Rat)):=by
 have hof:=of_pure 1 (by omega)
 refine Pg Tryz.func86 rfl [.cell 2 27] rfl (dD _) ?_
 rw [Ik]
 unfold zA ZR.av zc
 generalize ax 18446744073709551616 1=o at *
 simp -implicitDefEqProofs [go_sem]
 refine aa hof ?_
 simp -implicitDefEqProofs [go_sem,aL]
theorem EA {x:Nat}:b_ x=0↔x=0:=by
 unfold b_; split<;>omega
theorem db (z:RQ) (hz:z.Ok):ag Tryz.prog 87 [z.av] (rA z.val):=by
 have ha:=mT ⟨z.neg,z.p⟩ ⟨false,[]⟩ ⟨hz.lenp,hz.limp⟩ ⟨by unfold cg; simp,fu⟩ (by
  unfold ZR.val
  simp only [eD,dO,Nat.add_zero]
  exact dU hz.lenp hz.limp)
 have hv:ZR.val ⟨z.neg,z.p⟩+ZR.val ⟨false,[]⟩=z.num:=by
  unfold ZR.val RQ.num
  simp only [eD,o8,Int.add_zero]
 rw [hv] at ha
 have hb:=uO z.q hz.lenq hz.limq
 have hw:=C7 z.num
 have hfn:pt z.num.natAbs:=by
  unfold RQ.num; rw [dO]; exact dU hz.lenp hz.limp
 have hm:=vO (zc z.num) z.q (iW hfn) hz.lenq hz.limq
 rw [cO] at hm
 change _→ag _ _ [zA z.num,_] _ at hm
 have hval:z.val=if lv 18446744073709551616 z.q=0 then (z.num:Rat) else mkRat z.num (lv 18446744073709551616 z.q):=by
  unfold RQ.val RQ.den
  split
  ·exact Rat.mkRat_one _
  ·rfl
 rw [hval]
 refine Pg Tryz.func87 rfl [.cell 2 27] rfl (dD _) ?_
 have hbz := @EA (lv 18446744073709551616 z.q)
 generalize b_ (lv 18446744073709551616 z.q)=bl at *
 generalize lv 18446744073709551616 z.q=Q at *
 generalize z.num=N at *
 unfold zA ZR.av zc RQ.av at *
 simp only at *
 generalize ax 18446744073709551616 N.natAbs=L at *
 simp -implicitDefEqProofs [go_sem]
 refine ac (ha.args (.cons (Wk.refl _) (.cons (Wk.agg (.cons (Wk.refl _) (.cons (Wk.nil 0 1 true) .nil))) .nil))) ?_
 simp -implicitDefEqProofs [go_sem]
 refine ac hb ?_
 simp -implicitDefEqProofs [go_sem]
 refine ⟨fun h=>?_,fun h=>?_⟩
 ·rw [if_pos (hbz.1 (by omega))]
  refine ac hw ?_
  unfold rA RQ.av qc
  simp -implicitDefEqProofs [go_sem,aL]
 ·have h0:¬Q=0:=fun hh=>h (by have:=hbz.2 hh; omega)
  rw [if_neg h0]
  refine ac (hm h0) ?_
  unfold rA RQ.av qc
  simp -implicitDefEqProofs [go_sem,aL]
theorem FL (z:RQ):ag Tryz.prog 90 [z.av] (ZR.av ⟨false,z.q⟩):=by
 refine Pg Tryz.func90 rfl [.cell 2 25] rfl (P6 _) ?_
 unfold RQ.av ZR.av
 simp -implicitDefEqProofs [go_sem,aL]
theorem ud (n:Nat):zA (n:Int)=ZR.av ⟨false,ax 18446744073709551616 n⟩:=by
 unfold zA zc
 have h:decide ((n:Int)<0)=false:=by simp
 rw [h]; rfl
theorem kW (x:Rat):ag Tryz.prog 90 [rA x] (zA (x.den:Int)):=by
 rw [ud]; exact FL (qc x)
theorem Ap {x:Nat}:x<18446744073709551616 ^ nl x:=by
 have:=cN (ay (B:=18446744073709551616) (by omega) x)
 rwa [aA (by omega)] at this
theorem Ao {x k:Nat} (h:x<18446744073709551616 ^ k):nl x≤k:=cw (by omega) h
theorem cH (x y:Nat):nl (x*y)≤nl x+nl y:=by
 refine Ao ?_
 rw [Nat.pow_add]
 exact Nat.mul_lt_mul'' Ap Ap
theorem p7 (x y:Nat):nl (x+y)≤max (nl x) (nl y)+1:=by
 refine Ao ?_
 have h1:x<18446744073709551616 ^ max (nl x) (nl y):=Nat.lt_of_lt_of_le Ap (Nat.pow_le_pow_right (by omega) (Nat.le_max_left _ _))
 have h2:y<18446744073709551616 ^ max (nl x) (nl y):=Nat.lt_of_lt_of_le Ap (Nat.pow_le_pow_right (by omega) (Nat.le_max_right _ _))
 rw [Nat.pow_succ]
 generalize 18446744073709551616 ^ max (nl x) (nl y)=w at *
 omega
theorem oP:nl 0=0:=by unfold nl; rw [aW]; rfl
theorem jR:nl 1=1:=by unfold nl; rw [fD (by omega) (by omega) (by omega)]; rfl
theorem qB {l:List Nat} (h:bZ 18446744073709551616 l):nl (lv 18446744073709551616 l)≤l.length:=cw (by omega) (cN h)
def sz (x:Rat):Nat:=max (nl x.num.natAbs) (nl x.den)
theorem bX (x:Rat):nl x.num.natAbs≤sz x:=Nat.le_max_left _ _
theorem cf (x:Rat):nl x.den≤sz x:=Nat.le_max_right _ _
structure RQ.Sm (z:RQ):Prop where
 lp:z.p.length≤17179869184
 limp:bZ 18446744073709551616 z.p
 lq:z.q.length≤17179869184
 limq:bZ 18446744073709551616 z.q
theorem RQ.Sm.ok {z:RQ} (h:z.Sm):z.Ok:=⟨by unfold cg; have:=h.lp; omega,h.limp,by unfold cg; have:=h.lq; omega,h.limq⟩
theorem ws (n:Int) {d:Nat} (h:d≠0):sz (mkRat n d)≤max (nl n.natAbs) (nl d):=by
 have h1:nl (mkRat n d).num.natAbs≤nl n.natAbs:=by
  rw [tu n h]
  refine dN ?_
  rw [Int.natAbs_ediv_of_dvd (Int.ofNat_dvd_left.2 (Nat.gcd_dvd_left _ _))]
  exact Nat.div_le_self _ _
 have h2:nl (mkRat n d).den≤nl d:=by
  rw [xJ n h]
  exact dN (Nat.div_le_self _ _)
 unfold sz
 omega
theorem RQ.den_ne (z:RQ):z.den≠0:=by unfold RQ.den; split<;>omega
theorem jT {z:RQ} (h:z.Sm):sz z.val≤17179869184:=by
 have h1:=ws z.num z.den_ne
 have h2:nl z.num.natAbs≤z.p.length:=by unfold RQ.num; rw [dO]; exact qB h.limp
 have h3:nl z.den≤max 1 z.q.length:=by
  unfold RQ.den; split
  ·rw [jR]; omega
  ·have:=qB h.limq; omega
 have:=h.lp
 have:=h.lq
 unfold RQ.val
 omega
theorem c_ {x:Rat} (h:sz x≤17179869184):(qc x).Sm:=⟨Nat.le_trans (bX x) h,ay (by omega) _,Nat.le_trans (cf x) h,ay (by omega) _⟩
theorem sz_neg (x:Rat):sz (-x)=sz x:=by unfold sz; rw [Rat.neg_num,Rat.neg_den,Int.natAbs_neg]
theorem Cp (x y:Rat):x*y=mkRat (x.num*y.num) (x.den*y.den):=by rw [Rat.mul_def,Rat.normalize_eq_mkRat]
theorem Bq (x y:Rat):x+y=mkRat (x.num*y.den+y.num*x.den) (x.den*y.den):=by rw [Rat.add_def,Rat.normalize_eq_mkRat]
theorem gU (x y:Rat):x.den*y.den≠0:=Nat.mul_ne_zero x.den_nz y.den_nz
theorem aJ (x y:Rat):sz (x*y)≤sz x+sz y:=by
 rw [Cp]
 have h:=ws (x.num*y.num) (gU x y)
 have h1:=cH x.num.natAbs y.num.natAbs
 have h2:=cH x.den y.den
 rw [Int.natAbs_mul] at h
 have:=bX x; have:=bX y; have:=cf x; have:=cf y
 omega
theorem sz_add (x y:Rat):sz (x+y)≤sz x+sz y+1:=by
 rw [Bq]
 have h:=ws (x.num*y.den+y.num*x.den) (gU x y)
 have h1:=cH x.num.natAbs y.den
 have h2:=cH y.num.natAbs x.den
 have h3:=cH x.den y.den
 have h4:(x.num*y.den+y.num*x.den).natAbs≤x.num.natAbs*y.den+y.num.natAbs*x.den:=by
  refine Nat.le_trans (Int.natAbs_add_le _ _) ?_
  rw [Int.natAbs_mul,Int.natAbs_mul]; simp
 have h5:=dN h4
 have h6:=p7 (x.num.natAbs*y.den) (y.num.natAbs*x.den)
 have:=bX x; have:=bX y; have:=cf x; have:=cf y
 omega
theorem sz_sub (x y:Rat):sz (x-y)≤sz x+sz y+1:=by
 rw [Rat.sub_eq_add_neg]; have:=sz_add x (-y); rw [sz_neg] at this; exact this
theorem nX (n:Int):sz (n:Rat)=max (nl n.natAbs) 1:=by
 unfold sz; rw [Rat.num_intCast,Rat.den_intCast,jR]
theorem qH (x y:Int) (h:nl x.natAbs+nl y.natAbs<1099511627776):ag Tryz.prog 89 [zA x,zA y] (zA (x*y)):=by
 have h1:pt x.natAbs:=by rw [d_]; omega
 have h2:pt y.natAbs:=by rw [d_]; omega
 have h3:pt (x*y).natAbs:=by rw [d_,Int.natAbs_mul]; have:=cH x.natAbs y.natAbs; omega
 have:=Gm (zc x) (zc y) (iW h1) (iW h2) (by rw [cO,cO]; exact h3)
 rw [cO,cO] at this
 exact this
theorem K_ (x y:Int) (h:max (nl x.natAbs) (nl y.natAbs)+1<1099511627776):ag Tryz.prog 161 [zA x,zA y] (zA (x+y)):=by
 have h1:pt x.natAbs:=by rw [d_]; omega
 have h2:pt y.natAbs:=by rw [d_]; omega
 have h3:pt (x.natAbs+y.natAbs):=by rw [d_]; have:=p7 x.natAbs y.natAbs; omega
 have:=mT (zc x) (zc y) (iW h1) (iW h2) (by rw [cO,cO]; exact h3)
 rw [cO,cO] at this
 exact this
theorem Ql (x y:Int) (h:max (nl x.natAbs) (nl y.natAbs)+1<1099511627776):ag Tryz.prog 88 [zA x,zA y] (.int .i64 (cA x y)):=by
 have h1:pt x.natAbs:=by rw [d_]; omega
 have h2:pt y.natAbs:=by rw [d_]; omega
 have h3:pt (x.natAbs+y.natAbs):=by rw [d_]; have:=p7 x.natAbs y.natAbs; omega
 have:=Gl (zc x) (zc y) (iW h1) (iW h2) (by rw [cO,cO]; exact h3)
 rw [cO,cO] at this
 exact this
theorem IY (x:Int) (h:nl x.natAbs<1099511627776):ag Tryz.prog 159 [zA x] (zA (-x)):=by
 have:=wE (zc x) (iW h)
 rw [cO] at this
 exact this
theorem M3 (x:Int) (h:nl x.natAbs<1099511627776):ag Tryz.prog 93 [zA x] (.int .i64 (ik x)):=by
 have:=n_ (zc x) (iW h)
 rw [cO] at this
 exact this
theorem HU (x:Int) (d:Nat) (h:nl x.natAbs<1099511627776) (hd:nl d<1099511627776) (h0:d≠0):ag Tryz.prog 160 [zA x,nA (ax 18446744073709551616 d)] (rA (mkRat x d)):=by
 have:=vO (zc x) (ax 18446744073709551616 d) (iW h) hd (ay (by omega) _) (by rw [aA (by omega)]; exact h0)
 rw [cO,aA (by omega)] at this
 exact this
theorem KU (x y:Nat) (h:nl x+nl y<1099511627776):ag Tryz.prog 166 [nA (ax 18446744073709551616 x),nA (ax 18446744073709551616 y)] (nA (ax 18446744073709551616 (x*y))):=by
 have:=Al (ax 18446744073709551616 x) (ax 18446744073709551616 y) (show nl x<_ by omega) (show nl y<_ by omega) (ay (by omega) _) (ay (by omega) _)
 rw [aA (by omega),aA (by omega)] at this
 exact this
theorem Mm {z:RQ} (hz:z.Ok):FitQ z.val:=by
 have h1:pt z.num.natAbs:=by unfold RQ.num; rw [dO]; exact dU hz.lenp hz.limp
 have h2:pt z.den:=by
  unfold RQ.den; split
  ·rw [d_,jR]; omega
  ·exact dU hz.lenq hz.limq
 unfold RQ.val
 constructor
 ·rw [tu _ z.den_ne]
  refine h1.mono ?_
  rw [Int.natAbs_ediv_of_dvd (Int.ofNat_dvd_left.2 (Nat.gcd_dvd_left _ _))]
  exact Nat.div_le_self _ _
 ·rw [xJ _ z.den_ne]; exact h2.mono (Nat.div_le_self _ _)
theorem wb (z:RQ) (hz:z.Ok):ag Tryz.prog 292 [z.av] (rA (-z.val)):=by
 have hg:=db z hz
 have hn:=IY z.val.num (Mm hz).num
 generalize z.val=v at *
 refine Pg Tryz.func292 rfl [.cell 2 27] rfl (dD _) ?_
 unfold rA RQ.av qc zA ZR.av zc at *
 rw [Rat.neg_num,Rat.neg_den]
 simp only at *
 simp -implicitDefEqProofs [go_sem]
 refine ac hg ?_
 simp -implicitDefEqProofs [go_sem]
 refine aa hn ?_
 simp -implicitDefEqProofs [go_sem,aL]
theorem FX {n:Int} {g:Nat} (hg:0<g) (h:g ∣ n.natAbs):ik (n / (g:Int))=ik n:=by
 obtain ⟨k,hk⟩:=Int.ofNat_dvd_left.2 h
 rw [hk,Int.mul_ediv_cancel_left _ (by omega)]
 unfold ik
 have h1:(g:Int)*k<0↔k<0:=by
  constructor
  ·intro h; rcases Int.lt_or_le k 0 with h2|h2
   ·exact h2
   ·have:=Int.mul_nonneg (Int.natCast_nonneg g) h2; omega
  ·intro h; exact Int.mul_neg_of_pos_of_neg (by omega) h
 have h2:(g:Int)*k=0↔k=0:=by
  rw [Int.mul_eq_zero]; omega
 simp only [h1,h2]
def aM (x:Rat):Int:=ik x.num
theorem IB (z:RQ):aM z.val=ik z.num:=by
 unfold aM RQ.val
 rw [tu _ z.den_ne]
 exact FX (Nat.gcd_pos_of_pos_right _ (Nat.pos_iff_ne_zero.2 z.den_ne)) (Nat.gcd_dvd_left _ _)
theorem bI (z:RQ) (hz:z.Ok):ag Tryz.prog 34 [z.av] (.int .i64 (aM z.val)):=by
 rw [IB]
 have h:=n_ ⟨z.neg,z.p⟩ ⟨hz.lenp,hz.limp⟩
 change ag _ _ _ (.int .i64 (ik z.num)) at h
 generalize ik z.num=s at *
 refine Pg Tryz.func34 rfl [.tmp 2] rfl (by simp -implicitDefEqProofs [go_sem]) ?_
 unfold RQ.av ZR.av at *
 simp only at *
 simp -implicitDefEqProofs [go_sem]
 refine ac h ?_
 simp -implicitDefEqProofs [go_sem]
def bJ (x y:Rat):Int:=cA (x.num*y.den) (y.num*x.den)
theorem fM (a b:RQ) (ha:a.Sm) (hb:b.Sm):ag Tryz.prog 31 [a.av,b.av] (.int .i64 (bJ a.val b.val)):=by
 have ga:=db a ha.ok
 have gb:=db b hb.ok
 have sa:=jT ha
 have sb:=jT hb
 generalize a.val=x at *
 generalize b.val=y at *
 have:=bX x; have:=bX y; have:=cf x; have:=cf y
 have oa:=kW x
 have ob:=kW y
 have m1:=qH x.num y.den (by simp; omega)
 have m2:=qH y.num x.den (by simp; omega)
 have hc:=Ql (x.num*y.den) (y.num*x.den) (by
  have h1:=cH x.num.natAbs y.den
  have h2:=cH y.num.natAbs x.den
  rw [Int.natAbs_mul,Int.natAbs_mul]; simp; omega)
 unfold bJ
 generalize x.num*y.den=u at *
 generalize y.num*x.den=w at *
 generalize cA u w=c at *
 refine Pg Tryz.func31 rfl [.tmp 4] rfl (by simp -implicitDefEqProofs [go_sem]) ?_
 rw [ud] at oa ob m1 m2
 unfold rA RQ.av qc zA ZR.av zc at *
 simp only at *
 simp -implicitDefEqProofs [go_sem]
 refine aa ga ?_
 simp -implicitDefEqProofs [go_sem]
 refine aa gb ?_
 simp -implicitDefEqProofs [go_sem]
 refine aa ob ?_
 simp -implicitDefEqProofs [go_sem]
 refine aa m1 ?_
 simp -implicitDefEqProofs [go_sem]
 refine aa oa ?_
 simp -implicitDefEqProofs [go_sem]
 refine aa m2 ?_
 simp -implicitDefEqProofs [go_sem]
 refine aa hc ?_
 simp -implicitDefEqProofs [go_sem]
def rZ:AV := .agg [.bool false,.sl 0 true [],.sl 0 true []]
theorem pN (p q:Int):(p:Rat) / (q:Rat)=mkRat (if q<0 then -p else p) q.natAbs:=by
 rw [Rat.mkRat_eq_div]
 split
 ·rename_i h
  have:((q.natAbs:Nat):Rat) = -(q:Rat):=by
   rw [←Rat.intCast_natCast,Int.ofNat_natAbs_of_nonpos (by omega),Rat.intCast_neg]
  rw [this,Rat.intCast_neg]
  grind
 ·rename_i h
  have:((q.natAbs:Nat):Rat)=(q:Rat):=by
   rw [←Rat.intCast_natCast,Int.natAbs_of_nonneg (by omega)]
  rw [this]
theorem pY (p q:Int) (hp:nl p.natAbs+1<1099511627776) (hq:nl q.natAbs<1099511627776) :
 ag Tryz.prog 84 [zA p,zA q] (if q=0 then .tup [rZ,.int .i64 12] else .tup [rA ((p:Rat) / (q:Rat)),.int .i64 0]):=by
 have hs:=M3 q hq
 have hn:=IY p (by omega)
 have hz:∀x:Int,x.natAbs=p.natAbs→ag Tryz.prog 161 [zA x,.agg [.bool false,.sl 0 true []]] (zA x):=fun x hx=>by
  have:=K_ x 0 (by rw [hx,show (0:Int).natAbs=0 from rfl,oP]; omega)
  rw [Int.add_zero] at this
  refine this.args (.cons (Wk.refl _) (.cons ?_ .nil))
  unfold zA ZR.av zc
  rw [show (0:Int).natAbs=0 from rfl,aW]
  exact Wk.agg (.cons (Wk.refl _) (.cons (Wk.nil 0 1 true) .nil))
 have hm:∀x:Int,x.natAbs=p.natAbs→q≠0→ag Tryz.prog 160 [zA x,nA (ax 18446744073709551616 q.natAbs)] (rA (mkRat x q.natAbs)):=fun x hx h0=>HU x q.natAbs (by rw [hx]; omega) hq (by omega)
 by_cases h0:q=0
 ·rw [if_pos h0]
  subst h0
  unfold ik at hs
  simp only [Int.lt_irrefl,if_false,if_true] at hs
  refine Pg Tryz.func84 rfl [.cell 4 27,.tmp 5] rfl (by simp -implicitDefEqProofs [go_sem,rZ]) ?_
  unfold zA ZR.av zc rZ at *
  simp -implicitDefEqProofs [go_sem]
  refine ac hs ?_
  simp -implicitDefEqProofs [go_sem,aL]
 ·rw [if_neg h0,pN]
  by_cases h1:q<0
  ·rw [if_pos h1]
   have hm1:=hm (-p) (by omega) h0
   have hz1:=hz (-p) (by omega)
   rw [show ik q = -1 by unfold ik; rw [if_pos h1]] at hs
   generalize mkRat (-p) q.natAbs=r at *
   refine Pg Tryz.func84 rfl [.cell 4 27,.tmp 5] rfl (by simp -implicitDefEqProofs [go_sem,dD]) ?_
   clear hz hm
   generalize -p=p2 at *
   unfold zA ZR.av zc rA RQ.av qc at *
   simp only at *
   simp -implicitDefEqProofs [go_sem]
   refine ac hs ?_
   simp -implicitDefEqProofs [go_sem]
   refine ac hn ?_
   simp -implicitDefEqProofs [go_sem]
   refine aa hz1 ?_
   simp -implicitDefEqProofs [go_sem]
   refine aa hm1 ?_
   simp -implicitDefEqProofs [go_sem,aL]
  ·rw [if_neg h1]
   have hm1:=hm p rfl h0
   have hz1:=hz p rfl
   rw [show ik q=1 by unfold ik; rw [if_neg h1,if_neg h0]] at hs
   generalize mkRat p q.natAbs=r at *
   refine Pg Tryz.func84 rfl [.cell 4 27,.tmp 5] rfl (by simp -implicitDefEqProofs [go_sem,dD]) ?_
   clear hz hm
   unfold zA ZR.av zc rA RQ.av qc at *
   simp only at *
   simp -implicitDefEqProofs [go_sem]
   refine ac hs ?_
   simp -implicitDefEqProofs [go_sem]
   refine aa hz1 ?_
   simp -implicitDefEqProofs [go_sem]
   refine aa hm1 ?_
   simp -implicitDefEqProofs [go_sem,aL]
theorem nN {p:Int} (h : -9223372036854775808≤p∧p≤9223372036854775807):nl p.natAbs≤1:=Ao (by omega)
theorem bM (p q:Int) (hp : -9223372036854775808≤p∧p≤9223372036854775807) (hq : -9223372036854775808≤q∧q≤9223372036854775807) (h0:q≠0) :
 ag Tryz.prog 30 [.int .i64 p,.int .i64 q] (rA ((p:Rat) / (q:Rat))):=by
 have h1:=Bl p hp
 have h2:=Bl q hq
 have hm:=pY p q (by have:=nN hp; omega) (by have:=nN hq; omega)
 rw [if_neg h0] at hm
 generalize (p:Rat) / (q:Rat)=r at *
 refine Pg Tryz.func30 rfl [.cell 4 27] rfl (dD _) ?_
 unfold zA ZR.av zc rA RQ.av qc at *
 simp only at *
 simp -implicitDefEqProofs [go_sem]
 refine ac h1 ?_
 simp -implicitDefEqProofs [go_sem]
 refine ac h2 ?_
 simp -implicitDefEqProofs [go_sem]
 refine ac hm ?_
 simp -implicitDefEqProofs [go_sem,aL]
theorem oQ (x:Rat):x=(x.num:Rat) / (x.den:Rat):=by
 rw [←Rat.mkRat_eq_div,Rat.mkRat_self]
theorem vZ (a b:RQ) (ha:a.Sm) (hb:b.Sm):ag Tryz.prog 130 [a.av,b.av] (if b.val=0 then .tup [rZ,.int .i64 12] else .tup [rA (a.val / b.val),.int .i64 0]):=by
 have ga:=db a ha.ok
 have gb:=db b hb.ok
 have sa:=jT ha
 have sb:=jT hb
 generalize a.val=x at *
 generalize b.val=y at *
 have:=bX x; have:=bX y; have:=cf x; have:=cf y
 have oa:=kW x
 have ob:=kW y
 have m1:=qH x.num y.den (by simp; omega)
 have m2:=qH y.num x.den (by simp; omega)
 have hm:=pY (x.num*y.den) (y.num*x.den) (by
  have h1:=cH x.num.natAbs y.den
  rw [Int.natAbs_mul]; simp; omega) (by
  have h2:=cH y.num.natAbs x.den
  rw [Int.natAbs_mul]; simp; omega)
 have hy0:y.num*x.den=0↔y=0:=by
  rw [Int.mul_eq_zero,Rat.num_eq_zero]
  have:=x.den_nz
  constructor
  ·rintro (h|h)
   ·exact h
   ·exact absurd (by omega) this
  ·exact .inl
 have hv:((x.num*y.den:Int):Rat) / ((y.num*x.den:Int):Rat)=x / y:=by
  have h1:x=(x.num:Rat) / (x.den:Rat):=oQ x
  have h2:y=(y.num:Rat) / (y.den:Rat):=oQ y
  have h3:(x.den:Rat)≠0:=by simpa using x.den_nz
  have h4:(y.den:Rat)≠0:=by simpa using y.den_nz
  rw [Rat.intCast_mul,Rat.intCast_mul,Rat.intCast_natCast,Rat.intCast_natCast]
  conv=>rhs; rw [h1,h2]
  generalize (x.num:Rat)=a at *
  generalize (y.num:Rat)=b at *
  generalize (x.den:Rat)=c at *
  generalize (y.den:Rat)=d at *
  clear h1 h2 m1 m2 hm
  grind
 rw [hv] at hm
 simp only [hy0] at hm
 refine Pg Tryz.func130 rfl [.cell 4 27,.tmp 5] rfl (by split<;>simp -implicitDefEqProofs [go_sem,rZ,dD]) ?_
 clear hy0 hv
 generalize x.num*y.den=u at *
 generalize y.num*x.den=w at *
 rw [ud] at oa ob m1 m2
 have hcs:(if y=0 then AV.tup [rZ,.int .i64 12] else .tup [rA (x / y),.int .i64 0]) = .tup [if y=0 then rZ else rA (x / y),.int .i64 (if y=0 then 12 else 0)]:=by split<;>rfl
 rw [hcs] at hm ⊢
 generalize hR:(if y=0 then rZ else rA (x / y))=R at *
 obtain ⟨r1,s2,t2,l2,s3,t3,l3,hRe⟩:∃r1 s2 t2 l2 s3 t3 l3,R = .agg [.bool r1,.sl s2 t2 (uA .u64 l2),.sl s3 t3 (uA .u64 l3)]:=by
  rw [←hR]; split
  ·exact ⟨_,_,_,[],_,_,[],rfl⟩
  ·exact ⟨_,_,_,_,_,_,_,rfl⟩
 subst hRe
 generalize (if y=0 then (12:Int) else 0)=e at *
 unfold rA RQ.av qc zA ZR.av zc at *
 simp only at *
 simp -implicitDefEqProofs [go_sem]
 refine aa ga ?_
 simp -implicitDefEqProofs [go_sem]
 refine aa gb ?_
 simp -implicitDefEqProofs [go_sem]
 refine aa ob ?_
 simp -implicitDefEqProofs [go_sem]
 refine aa m1 ?_
 simp -implicitDefEqProofs [go_sem]
 refine aa oa ?_
 simp -implicitDefEqProofs [go_sem]
 refine aa m2 ?_
 simp -implicitDefEqProofs [go_sem]
 refine aa hm ?_
 simp -implicitDefEqProofs [go_sem,aL]
theorem H7 {x y:Rat} (hx:sz x≤17179869184) (hy:sz y≤17179869184):nl (x.num*y.den+y.num*x.den).natAbs<1099511627776:=by
 have:=bX x; have:=bX y; have:=cf x; have:=cf y
 have h1:=cH x.num.natAbs y.den
 have h2:=cH y.num.natAbs x.den
 have h4:(x.num*y.den+y.num*x.den).natAbs≤x.num.natAbs*y.den+y.num.natAbs*x.den:=by
  refine Nat.le_trans (Int.natAbs_add_le _ _) ?_
  rw [Int.natAbs_mul,Int.natAbs_mul]; simp
 have h5:=dN h4
 have h6:=p7 (x.num.natAbs*y.den) (y.num.natAbs*x.den)
 omega
theorem sM (x y:Rat) (hx:sz x≤17179869184) (hy:sz y≤17179869184):ag Tryz.prog 258 [rA x,rA y] (rA (x+y)):=by
 have:=bX x; have:=bX y; have:=cf x; have:=cf y
 have oa:=kW x
 have ob:=kW y
 have m1:=qH x.num y.den (by simp; omega)
 have m2:=qH y.num x.den (by simp; omega)
 have hs:=K_ (x.num*y.den) (y.num*x.den) (by
  have h1:=cH x.num.natAbs y.den
  have h2:=cH y.num.natAbs x.den
  rw [Int.natAbs_mul,Int.natAbs_mul]; simp; omega)
 have hd:=KU x.den y.den (by omega)
 have hm:=HU (x.num*y.den+y.num*x.den) (x.den*y.den) (H7 hx hy) (by have:=cH x.den y.den; omega) (gU x y)
 rw [←Bq] at hm
 generalize x+y=r at *
 generalize x.num*y.den+y.num*x.den=s at *
 generalize x.num*y.den=u at *
 generalize y.num*x.den=w at *
 generalize x.den*y.den=dd at *
 refine Pg Tryz.func258 rfl [.cell 4 27] rfl (dD _) ?_
 rw [ud] at oa ob m1 m2
 unfold rA RQ.av qc zA ZR.av zc at *
 simp only at *
 simp -implicitDefEqProofs [go_sem]
 refine aa ob ?_
 simp -implicitDefEqProofs [go_sem]
 refine aa m1 ?_
 simp -implicitDefEqProofs [go_sem]
 refine aa oa ?_
 simp -implicitDefEqProofs [go_sem]
 refine aa m2 ?_
 simp -implicitDefEqProofs [go_sem]
 refine aa hs ?_
 simp -implicitDefEqProofs [go_sem]
 refine aa hd ?_
 simp -implicitDefEqProofs [go_sem]
 refine aa hm ?_
 simp -implicitDefEqProofs [go_sem,aL]
theorem BY (x y:Rat) (hx:sz x≤17179869184) (hy:sz y≤17179869184):ag Tryz.prog 260 [rA x,rA y] (rA (x*y)):=by
 have:=bX x; have:=bX y; have:=cf x; have:=cf y
 have m1:=qH x.num y.num (by omega)
 have hd:=KU x.den y.den (by omega)
 have hm:=HU (x.num*y.num) (x.den*y.den) (by have:=cH x.num.natAbs y.num.natAbs; rw [Int.natAbs_mul]; omega) (by have:=cH x.den y.den; omega) (gU x y)
 rw [←Cp] at hm
 generalize x*y=r at *
 generalize x.num*y.num=u at *
 generalize x.den*y.den=dd at *
 refine Pg Tryz.func260 rfl [.cell 4 27] rfl (dD _) ?_
 unfold rA RQ.av qc zA ZR.av zc at *
 simp only at *
 simp -implicitDefEqProofs [go_sem]
 refine aa m1 ?_
 simp -implicitDefEqProofs [go_sem]
 refine aa hd ?_
 simp -implicitDefEqProofs [go_sem]
 refine aa hm ?_
 simp -implicitDefEqProofs [go_sem,aL]
theorem BX (x y:Rat) (hx:sz x≤17179869184) (hy:sz y≤17179869184):ag Tryz.prog 259 [rA x,rA y,.rp [.fn (.func 258) [] []]] (rA (x-y)):=by
 have hn:=IY y.num (by have:=bX y; omega)
 have ha:=sM x (-y) hx (by rw [sz_neg]; exact hy)
 rw [←Rat.sub_eq_add_neg] at ha
 generalize x-y=r at *
 refine Pg Tryz.func259 rfl [.cell 5 27] rfl (dD _) ?_
 unfold rA RQ.av qc zA ZR.av zc at *
 rw [Rat.neg_num,Rat.neg_den] at ha
 simp only at *
 generalize -y.num=ny at *
 simp -implicitDefEqProofs [go_sem]
 refine aa hn ?_
 simp -implicitDefEqProofs [go_sem]
 refine aa ha ?_
 simp -implicitDefEqProofs [go_sem,aL]
@[go_sem] theorem QY (off:Nat) (v:AV):(AV.any).lay off [v]=v:=rfl
theorem GT (a b:RQ) (ha:a.Sm) (hb:b.Sm):ag Tryz.prog 129 [.int .i64 0,a.av,b.av] (rA (a.val+b.val)):=by
 have ga:=db a ha.ok
 have gb:=db b hb.ok
 have hs:=sM a.val b.val (jT ha) (jT hb)
 generalize a.val=x at *
 generalize b.val=y at *
 generalize x+y=r at *
 refine Pg Tryz.func129 rfl [.cell 6 27] rfl (dD _) ?_
 unfold rA RQ.av qc at *
 simp only at *
 simp -implicitDefEqProofs [go_sem]
 refine nO (sz:=4) (rest:=[.int .u32 0,.sl 0 true []]) (by simp -implicitDefEqProofs [go_sem,jr]) ?_
 refine Cg Tryz.func206 rfl [] rfl ?_
 simp -implicitDefEqProofs [go_sem,cK,de]
 refine aa ga ?_
 simp -implicitDefEqProofs [go_sem]
 refine aa gb ?_
 simp -implicitDefEqProofs [go_sem]
 refine aa hs ?_
 simp -implicitDefEqProofs [go_sem,aL]
theorem GU (a b:RQ) (ha:a.Sm) (hb:b.Sm):ag Tryz.prog 129 [.int .i64 1,a.av,b.av] (rA (a.val-b.val)):=by
 have ga:=db a ha.ok
 have gb:=db b hb.ok
 have hs:=BX a.val b.val (jT ha) (jT hb)
 generalize a.val=x at *
 generalize b.val=y at *
 generalize x-y=r at *
 refine Pg Tryz.func129 rfl [.cell 6 27] rfl (dD _) ?_
 unfold rA RQ.av qc at *
 simp only at *
 simp -implicitDefEqProofs [go_sem]
 refine nO (sz:=4) (rest:=[.int .u32 0,.sl 0 true []]) (by simp -implicitDefEqProofs [go_sem,jr]) ?_
 refine Cg Tryz.func206 rfl [] rfl ?_
 simp -implicitDefEqProofs [go_sem,cK,de]
 refine aa ga ?_
 simp -implicitDefEqProofs [go_sem]
 refine aa gb ?_
 simp -implicitDefEqProofs [go_sem]
 refine lN [4] _ (by kernel_rfl) hs (by simp -implicitDefEqProofs [go_sem]) (by simp -implicitDefEqProofs [go_sem]) (by simp -implicitDefEqProofs [go_sem]) (by simp -implicitDefEqProofs [go_sem]) ?_
 simp -implicitDefEqProofs [go_sem,aL]
theorem GV (a b:RQ) (ha:a.Sm) (hb:b.Sm):ag Tryz.prog 129 [.int .i64 2,a.av,b.av] (rA (a.val*b.val)):=by
 have ga:=db a ha.ok
 have gb:=db b hb.ok
 have hs:=BY a.val b.val (jT ha) (jT hb)
 generalize a.val=x at *
 generalize b.val=y at *
 generalize x*y=r at *
 refine Pg Tryz.func129 rfl [.cell 6 27] rfl (dD _) ?_
 unfold rA RQ.av qc at *
 simp only at *
 simp -implicitDefEqProofs [go_sem]
 refine nO (sz:=4) (rest:=[.int .u32 0,.sl 0 true []]) (by simp -implicitDefEqProofs [go_sem,jr]) ?_
 refine Cg Tryz.func206 rfl [] rfl ?_
 simp -implicitDefEqProofs [go_sem,cK,de]
 refine aa ga ?_
 simp -implicitDefEqProofs [go_sem]
 refine aa gb ?_
 simp -implicitDefEqProofs [go_sem]
 refine aa hs ?_
 simp -implicitDefEqProofs [go_sem,aL]
theorem mN (a b:RQ) (ha:a.Sm) (hb:b.Sm):ag Tryz.prog 133 [a.av,b.av] (rA (a.val+b.val)):=by
 have h:=GT a b ha hb
 generalize a.val+b.val=r at *
 refine Pg Tryz.func133 rfl [.cell 4 27] rfl (dD _) ?_
 unfold rA RQ.av qc at *
 simp only at *
 simp -implicitDefEqProofs [go_sem]
 refine ac h ?_
 simp -implicitDefEqProofs [go_sem,aL]
theorem ij (a b:RQ) (ha:a.Sm) (hb:b.Sm):ag Tryz.prog 171 [a.av,b.av] (rA (a.val-b.val)):=by
 have h:=GU a b ha hb
 generalize a.val-b.val=r at *
 refine Pg Tryz.func171 rfl [.cell 4 27] rfl (dD _) ?_
 unfold rA RQ.av qc at *
 simp only at *
 simp -implicitDefEqProofs [go_sem]
 refine ac h ?_
 simp -implicitDefEqProofs [go_sem,aL]
theorem dC (a b:RQ) (ha:a.Sm) (hb:b.Sm):ag Tryz.prog 58 [a.av,b.av] (rA (a.val*b.val)):=by
 have h:=GV a b ha hb
 generalize a.val*b.val=r at *
 refine Pg Tryz.func58 rfl [.cell 4 27] rfl (dD _) ?_
 unfold rA RQ.av qc at *
 simp only at *
 simp -implicitDefEqProofs [go_sem]
 refine ac h ?_
 simp -implicitDefEqProofs [go_sem,aL]
def iA (x:Int):AV := .agg [.bool (decide (x<0)),qA x.natAbs]
theorem tL (x:Int):ro (iA x):=by unfold iA qA; simp -implicitDefEqProofs [go_sem]
theorem PN (x:Nat):(ax 4294967296 x).length≤2*nl x:=by
 refine cw (by omega) ?_
 rw [D6]; exact Ap
theorem fX {x:Nat} (h:nl x<549755813888):cg (ax 4294967296 x):=by
 unfold cg; have:=PN x; omega
theorem Ma (b:Bool) (x:Nat):iA (fR b x) = .agg [.bool (b && decide (0<x)),qA x]:=by
 unfold iA; simp only [dO,yd]
theorem An {x:Nat}:decide (0<(ax 4294967296 x).length)=decide (0<x):=by
 congr 1
 rw [List.length_pos_iff,ne_eq,bG (by omega),Nat.pos_iff_ne_zero]
theorem fB (neg:Bool) (n:Nat):ag Tryz.prog 156 [.bool neg,qA n] (iA (fR neg n)):=by
 refine Pg Tryz.func156 rfl [.cell 4 43] rfl (tL _) ?_
 rw [Ma]
 have hp:=An (x:=n)
 unfold qA at *
 simp -implicitDefEqProofs [go_sem,aL]
 refine ⟨fun h=>by rw [hp,h]; rfl,fun h h2=>by rw [h] at h2; cases h2⟩
theorem HL (z:ZR) (hz:z.Ok):ag Tryz.prog 77 [z.av] (iA z.val):=by
 obtain ⟨neg,n⟩:=z
 have h1:=xE n hz.len hz.lim
 have h2:=fB neg (lv 18446744073709551616 n)
 unfold ZR.val
 simp only
 generalize fR neg (lv 18446744073709551616 n)=y at *
 generalize lv 18446744073709551616 n=m at *
 refine Pg Tryz.func77 rfl [.cell 2 43] rfl (tL _) ?_
 unfold ZR.av iA qA at *
 simp only
 simp -implicitDefEqProofs [go_sem]
 refine aa h1 ?_
 simp -implicitDefEqProofs [go_sem]
 refine aa h2 ?_
 simp -implicitDefEqProofs [go_sem,aL]
theorem Fo (x:Int) (h:nl x.natAbs<549755813888):ag Tryz.prog 204 [iA x] (zA x):=by
 have h1:=Aw x.natAbs (fX h)
 refine Pg Tryz.func204 rfl [.cell 2 25] rfl (qF _) ?_
 unfold iA zA ZR.av zc qA at *
 simp -implicitDefEqProofs [go_sem]
 refine aa h1 ?_
 simp -implicitDefEqProofs [go_sem,aL]
theorem zU (v:Int) (h : -9223372036854775808≤v∧v≤9223372036854775807):ag Tryz.prog 137 [.int .i64 v] (iA v):=by
 refine Pg Tryz.func137 rfl [.cell 2 43] rfl (tL _) ?_
 have hof:=fJ v.natAbs (by omega)
 have h1:=fB true v.natAbs
 have h2:=fB false v.natAbs
 unfold qA at *
 simp -implicitDefEqProofs [go_sem]
 refine ⟨fun h0=>?_,fun h0=>?_⟩
 ·have e1:IntKind.u64.wrap (IntKind.u64.wrap (IntKind.i64.wrap (-IntKind.i64.wrap (v+1)))+1)=(v.natAbs:Nat):=by
   rw [bS (x:=v+1) (by omega),bS (by omega),cI (x := -(v+1)) (by omega),cI (by omega)]; omega
  rw [e1]
  have e2:fR true v.natAbs=v:=by unfold fR; simp only [if_true]; omega
  rw [e2] at h1
  refine ac hof ?_
  simp -implicitDefEqProofs [go_sem]
  refine ac h1 ?_
  simp -implicitDefEqProofs [go_sem,aL,iA,qA]
 ·have e1:IntKind.u64.wrap v=(v.natAbs:Nat):=by rw [cI (by omega)]; omega
  rw [e1]
  have e2:fR false v.natAbs=v:=by unfold fR; simp only [Bool.false_eq_true,if_false]; omega
  rw [e2] at h2
  refine ac hof ?_
  simp -implicitDefEqProofs [go_sem]
  refine ac h2 ?_
  simp -implicitDefEqProofs [go_sem,aL,iA,qA]
theorem lQ (x:Int):ag Tryz.prog 247 [iA x] (iA (-x)):=by
 have hm:=fB (!(decide (x<0))) x.natAbs
 rw [Ef,oZ] at hm
 generalize -x=y at *
 refine Pg Tryz.func247 rfl [.cell 2 43] rfl (tL _) ?_
 unfold iA qA at *
 generalize hb:decide (x<0)=b at *
 simp -implicitDefEqProofs [go_sem]
 refine ac hm ?_
 simp -implicitDefEqProofs [go_sem,aL]
theorem s_ (x:Int):ag Tryz.prog 120 [iA x] (.int .i64 (ik x)):=by
 refine Pg Tryz.func120 rfl [.tmp 2] rfl (by simp -implicitDefEqProofs [go_sem]) ?_
 unfold iA qA
 have hp:ax 4294967296 x.natAbs=[]↔x=0:=by rw [bG (by omega)]; omega
 unfold ik
 by_cases h0:x=0
 ·have:=hp.2 h0
  simp -implicitDefEqProofs [go_sem,h0,this]
  exact aW
 ·have h1:¬ax 4294967296 x.natAbs=[]:=fun h=>h0 (hp.1 h)
  by_cases h2:x<0
  ·simp -implicitDefEqProofs [go_sem,h0,h1,h2]
  ·simp -implicitDefEqProofs [go_sem,h0,h1,h2]
theorem gZ (x y:Int) (hx:nl x.natAbs<549755813888) (hy:nl y.natAbs<549755813888):ag Tryz.prog 135 [iA x,iA y] (iA (x*y)):=by
 have h1:=fE x.natAbs y.natAbs (fX hx) (fX hy)
 have hm:=fB (decide (x<0) != decide (y<0)) (x.natAbs*y.natAbs)
 rw [ye,oZ,oZ] at hm
 refine Pg Tryz.func135 rfl [.cell 4 43] rfl (tL _) ?_
 generalize x*y=z at *
 generalize x.natAbs*y.natAbs=xy at *
 unfold iA qA at *
 generalize decide (x<0)=bx at *
 generalize decide (y<0)=by' at *
 simp -implicitDefEqProofs [go_sem]
 refine aa h1 ?_
 simp -implicitDefEqProofs [go_sem]
 refine aa (show ag Tryz.prog 156 [.bool (!(bx == by')),mA (ax 4294967296 xy)] _ from hm) ?_
 simp -implicitDefEqProofs [go_sem,aL]
theorem vw (x y:Int) (hx:nl x.natAbs<549755813888) (hy:nl y.natAbs<549755813888):ag Tryz.prog 255 [iA x,iA y] (iA (x+y)):=by
 have fx:=fX hx
 have fy:=fX hy
 have hadd:=rS x.natAbs y.natAbs fx fy
 have hcmp:=jh x.natAbs y.natAbs fx.x fy.x
 have hsub1:=fun h=>nV x.natAbs y.natAbs fx fy h
 have hsub2:=fun h=>nV y.natAbs x.natAbs fy fx h
 have hmk:=fB
 refine Pg Tryz.func255 rfl [.cell 4 43] rfl (tL _) ?_
 rcases Decidable.em (x<0↔y<0) with h|h
 ·have hm:=hmk (decide (x<0)) (x.natAbs+y.natAbs)
  rw [show fR (decide (x<0)) (x.natAbs+y.natAbs)=x+y by unfold fR; simp only [decide_eq_true_eq]; split<;>omega] at hm
  generalize x+y=z at *
  generalize x.natAbs+y.natAbs=s at *
  unfold iA qA at *
  simp -implicitDefEqProofs [go_sem,h]
  refine aa hadd ?_
  simp -implicitDefEqProofs [go_sem,h]
  simp only [h] at hm
  refine aa hm ?_
  simp -implicitDefEqProofs [go_sem,aL]
 ·rcases Nat.lt_or_ge x.natAbs y.natAbs with h1|h1
  ·have hc:¬0≤cA x.natAbs y.natAbs:=by rw [eN (by omega)]; omega
   have hm:=hmk (decide (y<0)) (y.natAbs-x.natAbs)
   rw [show fR (decide (y<0)) (y.natAbs-x.natAbs)=x+y by unfold fR; simp only [decide_eq_true_eq]; split<;>omega] at hm
   have hs:=hsub2 (by omega)
   clear hsub1 hsub2 hadd hmk
   generalize x+y=z at *
   generalize y.natAbs-x.natAbs=s at *
   generalize cA x.natAbs y.natAbs=c at *
   unfold iA qA at *
   simp -implicitDefEqProofs [go_sem,h]
   refine ac hcmp ?_
   simp -implicitDefEqProofs [go_sem,hc]
   refine aa hs ?_
   simp -implicitDefEqProofs [go_sem]
   refine aa hm ?_
   simp -implicitDefEqProofs [go_sem,aL]
  ·have hc:0≤cA x.natAbs y.natAbs:=by
    rcases Nat.lt_or_ge y.natAbs x.natAbs with h|h
    ·rw [dI (by omega)]; omega
    ·rw [show x.natAbs=y.natAbs by omega,is]; omega
   have hm:=hmk (decide (x<0)) (x.natAbs-y.natAbs)
   rw [show fR (decide (x<0)) (x.natAbs-y.natAbs)=x+y by unfold fR; simp only [decide_eq_true_eq]; split<;>omega] at hm
   have hs:=hsub1 h1
   clear hsub1 hsub2 hadd hmk
   generalize x+y=z at *
   generalize x.natAbs-y.natAbs=s at *
   generalize cA x.natAbs y.natAbs=c at *
   unfold iA qA at *
   simp -implicitDefEqProofs [go_sem,h]
   refine ac hcmp ?_
   simp -implicitDefEqProofs [go_sem,hc]
   refine aa hs ?_
   simp -implicitDefEqProofs [go_sem]
   refine aa hm ?_
   simp -implicitDefEqProofs [go_sem,aL]
theorem vA (x y:Int) (hx:nl x.natAbs<549755813888) (hy:nl y.natAbs<549755813888):ag Tryz.prog 207 [iA x,iA y] (iA (x-y)):=by
 have hn:=lQ y
 have ha:=vw x (-y) hx (by rw [Int.natAbs_neg]; exact hy)
 rw [←Int.sub_eq_add_neg] at ha
 generalize x-y=z at *
 generalize -y=w at *
 refine Pg Tryz.func207 rfl [.cell 4 43] rfl (tL _) ?_
 unfold iA qA at *
 simp -implicitDefEqProofs [go_sem]
 refine aa hn ?_
 simp -implicitDefEqProofs [go_sem]
 refine aa ha ?_
 simp -implicitDefEqProofs [go_sem,aL]
theorem Fj (x y:Int) (hx:nl x.natAbs<549755813888) (hy:nl y.natAbs<549755813888):ag Tryz.prog 134 [iA x,iA y] (.int .i64 (cA x y)):=by
 have hs:=vA x y hx hy
 have hg:=s_ (x-y)
 rw [AX] at hg
 generalize x-y=z at *
 generalize cA x y=c at *
 refine Pg Tryz.func134 rfl [.tmp 4] rfl (by simp -implicitDefEqProofs [go_sem]) ?_
 unfold iA qA at *
 simp -implicitDefEqProofs [go_sem]
 refine ac hs ?_
 simp -implicitDefEqProofs [go_sem]
 refine ac hg ?_
 simp -implicitDefEqProofs [go_sem]
@[go_sem] theorem NC (a:AV) (l:List AV):bU (a::l) 0=a:=rfl
def fA (x:Rat):AV := .agg [.bool (decide (x.num<0)),qA x.num.natAbs,qA x.den]
theorem iJ (x:Rat):ro (fA x):=by unfold fA qA; simp -implicitDefEqProofs [go_sem]
theorem gY (p:Int) (q:Nat) (hp:nl p.natAbs<549755813888) (hq:nl q<549755813888) (h0:q≠0):ag Tryz.prog 76 [iA p,qA q] (fA (mkRat p q)):=by
 have hg:=B6 p.natAbs q (fX hp) (fX hq)
 obtain ⟨g,hgg⟩:∃g,g=Nat.gcd p.natAbs q:=⟨_,rfl⟩
 have hg0:g≠0:=by rw [hgg]; exact Nat.gcd_ne_zero_right h0
 have hgl:g≤q:=by rw [hgg]; exact Nat.le_of_dvd (Nat.pos_iff_ne_zero.2 h0) (Nat.gcd_dvd_right _ _)
 have hgf:cg (ax 4294967296 g):=fX (Nat.lt_of_le_of_lt (dN hgl) hq)
 have hd1:=iv p.natAbs g (fX hp) hgf (by omega)
 have hd2:=iv q g (fX hq) hgf (by omega)
 have hgp:g ∣ p.natAbs:=by rw [hgg]; exact Nat.gcd_dvd_left _ _
 have hn:(mkRat p q).num=fR (decide (p<0)) (p.natAbs / g):=by
  rw [tu _ h0,←hgg,Ee _ hgp,oZ]
 have hdn:(mkRat p q).den=q / g:=by rw [xJ _ h0,←hgg]
 have hneg:decide (fR (decide (p<0)) (p.natAbs / g)<0)=decide (p<0):=by
  rw [yd]
  by_cases h:p<0
  ·have:0<p.natAbs / g:=Nat.div_pos (Nat.le_of_dvd (by omega) hgp) (by omega)
   simp [h,this]
  ·simp [h]
 rw [←hgg] at hg
 refine Pg Tryz.func76 rfl [.cell 4 45] rfl (iJ _) ?_
 unfold fA
 rw [hn,hdn,hneg,dO]
 clear hn hdn hneg
 by_cases h1:g=1
 ·rw [h1,Nat.div_one,Nat.div_one]
  rw [h1] at hg
  clear hd1 hd2
  unfold iA qA at *
  rw [fD (B:=4294967296) (n:=1) (by omega) (by omega) (by omega)] at hg
  generalize ax 4294967296 p.natAbs=P at *
  generalize ax 4294967296 q=Q at *
  simp -implicitDefEqProofs [go_sem]
  refine ac hg ?_
  simp -implicitDefEqProofs [go_sem,aL]
 ·generalize p.natAbs / g=pg at *
  generalize p.natAbs%g=pr at *
  generalize q / g=qg at *
  generalize q%g=qr at *
  unfold iA qA at *
  by_cases h2:g<4294967296
  ·rw [fD (B:=4294967296) (by omega) hg0 h2] at hg hd1 hd2
   clear hgf hgl hgp hgg
   have h1i:¬(g:Int)=1:=by omega
   simp -implicitDefEqProofs [go_sem]
   refine ac hg ?_
   simp -implicitDefEqProofs [go_sem,h1i]
   refine aa hd1 ?_
   simp -implicitDefEqProofs [go_sem]
   refine aa hd2 ?_
   simp -implicitDefEqProofs [go_sem,aL]
  ·have hlen:¬(ax 4294967296 g).length=1:=fun h=>by
    have h3:=cN (ay (B:=4294967296) (by omega) g)
    rw [h,aA (by omega)] at h3
    exact h2 (by simpa using h3)
   have hne:¬ax 4294967296 g=[]:=fun h=>hg0 ((bG (by omega)).1 h)
   generalize ax 4294967296 g=G at *
   have hlen2:¬(G.length:Int)=1:=by omega
   simp -implicitDefEqProofs [go_sem]
   refine ac hg ?_
   simp -implicitDefEqProofs [go_sem,hlen2,hne]
   refine aa hd1 ?_
   simp -implicitDefEqProofs [go_sem]
   refine aa hd2 ?_
   simp -implicitDefEqProofs [go_sem,aL]
theorem zD (z:RQ) (hz:z.Ok) (hp:nl z.num.natAbs<549755813888) (hq:nl z.den<549755813888):ag Tryz.prog 19 [z.av] (fA z.val):=by
 have h1:=xE z.q hz.lenq hz.limq
 have h2:=HL ⟨z.neg,z.p⟩ ⟨hz.lenp,hz.limp⟩
 have h3:=fJ 1 (by omega)
 have hm:=gY z.num z.den hp hq z.den_ne
 change ag _ _ _ (iA z.num) at h2
 change ag _ _ _ (fA z.val) at hm
 have hd:z.den=if lv 18446744073709551616 z.q=0 then 1 else lv 18446744073709551616 z.q:=rfl
 generalize z.val=v at *
 generalize z.num=n at *
 generalize z.den=d at *
 refine Pg Tryz.func19 rfl [.cell 2 45] rfl (iJ _) ?_
 unfold RQ.av ZR.av fA iA qA at *
 simp only at *
 by_cases h0:lv 18446744073709551616 z.q=0
 ·rw [if_pos h0] at hd
  subst hd
  rw [h0,aW] at h1
  generalize ax 4294967296 1=o at *
  simp -implicitDefEqProofs [go_sem]
  refine ac h1 ?_
  simp -implicitDefEqProofs [go_sem]
  refine ac h3 ?_
  simp -implicitDefEqProofs [go_sem]
  refine ac h2 ?_
  simp -implicitDefEqProofs [go_sem]
  refine ac hm ?_
  simp -implicitDefEqProofs [go_sem,aL]
 ·rw [if_neg h0] at hd
  have hne:¬ax 4294967296 d=[]:=fun h=>h0 (by rw [←hd]; exact (bG (by omega)).1 h)
  rw [←hd] at h1
  generalize ax 4294967296 d=D at *
  simp -implicitDefEqProofs [go_sem]
  refine ac h1 ?_
  simp -implicitDefEqProofs [go_sem,hne]
  refine ac h2 ?_
  simp -implicitDefEqProofs [go_sem]
  refine ac hm ?_
  simp -implicitDefEqProofs [go_sem,aL]
theorem pU (x:Rat) (h:sz x<549755813888):ag Tryz.prog 126 [fA x] (rA x):=by
 have:=bX x; have:=cf x
 have h1:=Fo x.num (by omega)
 have h2:=Aw x.den (fX (by omega))
 have hne:¬ax 18446744073709551616 x.den=[]:=fun h=>x.den_nz ((bG (by omega)).1 h)
 refine Pg Tryz.func126 rfl [.cell 2 27] rfl (dD _) ?_
 unfold rA RQ.av qc fA iA zA ZR.av zc qA at *
 simp only at *
 generalize ax 18446744073709551616 x.den=D at *
 simp -implicitDefEqProofs [go_sem]
 refine ac h2 ?_
 simp -implicitDefEqProofs [go_sem,hne]
 refine ac h1 ?_
 simp -implicitDefEqProofs [go_sem,aL]
theorem eS (x:Rat):ag Tryz.prog 136 [fA x] (iA (x.den:Int)):=by
 have hne:¬ax 4294967296 x.den=[]:=fun h=>x.den_nz ((bG (by omega)).1 h)
 have hi:iA (x.den:Int) = .agg [.bool false,qA x.den]:=by
  unfold iA
  have h:decide ((x.den:Int)<0)=false:=by simp
  rw [h]; rfl
 rw [hi]
 refine Pg Tryz.func136 rfl [.cell 2 43] rfl (by simp -implicitDefEqProofs [go_sem,qA]) ?_
 unfold fA qA at *
 generalize ax 4294967296 x.den=D at *
 simp -implicitDefEqProofs [go_sem,hne,aL]
theorem nJ (n:Nat):iA (n:Int) = .agg [.bool false,qA n]:=by
 unfold iA
 have h:decide ((n:Int)<0)=false:=by simp
 rw [h]; rfl
theorem aE (x:Rat):ag Tryz.prog 50 [fA x] (.int .i64 (aM x)):=by
 have h:=s_ x.num
 unfold aM
 generalize ik x.num=s at *
 refine Pg Tryz.func50 rfl [.tmp 2] rfl (by simp -implicitDefEqProofs [go_sem]) ?_
 unfold fA iA qA at *
 simp -implicitDefEqProofs [go_sem]
 refine ac h ?_
 simp -implicitDefEqProofs [go_sem]
theorem eB (x:Rat):ag Tryz.prog 190 [fA x] (fA (-x)):=by
 have h:=lQ x.num
 refine Pg Tryz.func190 rfl [.cell 2 45] rfl (iJ _) ?_
 unfold fA iA qA at *
 rw [Rat.neg_num,Rat.neg_den]
 generalize -x.num=m at *
 simp -implicitDefEqProofs [go_sem]
 refine aa h ?_
 simp -implicitDefEqProofs [go_sem,aL]
theorem bC (x y:Rat) (hx:sz x≤17179869184) (hy:sz y≤17179869184):ag Tryz.prog 63 [fA x,fA y] (.int .i64 (bJ x y)):=by
 have:=bX x; have:=bX y; have:=cf x; have:=cf y
 have dx:=eS x
 have dy:=eS y
 have m1:=gZ x.num y.den (by omega) (by simp; omega)
 have m2:=gZ y.num x.den (by omega) (by simp; omega)
 have hc:=Fj (x.num*y.den) (y.num*x.den) (by
  have h1:=cH x.num.natAbs y.den
  rw [Int.natAbs_mul]; simp; omega) (by
  have h1:=cH y.num.natAbs x.den
  rw [Int.natAbs_mul]; simp; omega)
 unfold bJ
 generalize x.num*y.den=u at *
 generalize y.num*x.den=w at *
 generalize cA u w=c at *
 rw [nJ] at dx dy m1 m2
 refine Pg Tryz.func63 rfl [.tmp 4] rfl (by simp -implicitDefEqProofs [go_sem]) ?_
 unfold fA iA qA at *
 simp -implicitDefEqProofs [go_sem]
 refine aa dy ?_
 simp -implicitDefEqProofs [go_sem]
 refine aa m1 ?_
 simp -implicitDefEqProofs [go_sem]
 refine aa dx ?_
 simp -implicitDefEqProofs [go_sem]
 refine aa m2 ?_
 simp -implicitDefEqProofs [go_sem]
 refine aa hc ?_
 simp -implicitDefEqProofs [go_sem]
theorem aN (x y:Rat) (hx:sz x≤17179869184) (hy:sz y≤17179869184):ag Tryz.prog 119 [fA x,fA y] (fA (x*y)):=by
 have:=bX x; have:=bX y; have:=cf x; have:=cf y
 have dx:=eS x
 have dy:=eS y
 have m1:=gZ x.num y.num (by omega) (by omega)
 have m2:=fE x.den y.den (fX (by omega)) (fX (by omega))
 have hm:=gY (x.num*y.num) (x.den*y.den) (by
  have h1:=cH x.num.natAbs y.num.natAbs
  rw [Int.natAbs_mul]; omega) (by
  have h1:=cH x.den y.den
  omega) (gU x y)
 rw [←Cp] at hm
 generalize x*y=r at *
 generalize x.num*y.num=u at *
 generalize x.den*y.den=d at *
 rw [nJ] at dx dy
 refine Pg Tryz.func119 rfl [.cell 4 45] rfl (iJ _) ?_
 unfold fA iA qA at *
 simp -implicitDefEqProofs [go_sem]
 refine aa m1 ?_
 simp -implicitDefEqProofs [go_sem]
 refine aa dx ?_
 simp -implicitDefEqProofs [go_sem]
 refine aa dy ?_
 simp -implicitDefEqProofs [go_sem]
 refine aa m2 ?_
 simp -implicitDefEqProofs [go_sem]
 refine aa hm ?_
 simp -implicitDefEqProofs [go_sem,aL]
theorem fH (x y:Rat) (hx:sz x≤17179869184) (hy:sz y≤17179869184):ag Tryz.prog 199 [fA x,fA y] (fA (x+y)):=by
 have:=bX x; have:=bX y; have:=cf x; have:=cf y
 have dx:=eS x
 have dy:=eS y
 have m1:=gZ x.num y.den (by omega) (by simp; omega)
 have m2:=gZ y.num x.den (by omega) (by simp; omega)
 have h1:=cH x.num.natAbs y.den
 have h2:=cH y.num.natAbs x.den
 have ha:=vw (x.num*y.den) (y.num*x.den) (by rw [Int.natAbs_mul]; simp; omega) (by rw [Int.natAbs_mul]; simp; omega)
 have m3:=fE x.den y.den (fX (by omega)) (fX (by omega))
 have hm:=gY (x.num*y.den+y.num*x.den) (x.den*y.den) (by
  have h4:(x.num*y.den+y.num*x.den).natAbs≤x.num.natAbs*y.den+y.num.natAbs*x.den:=by
   refine Nat.le_trans (Int.natAbs_add_le _ _) ?_
   rw [Int.natAbs_mul,Int.natAbs_mul]; simp
  have h5:=dN h4
  have h6:=p7 (x.num.natAbs*y.den) (y.num.natAbs*x.den)
  omega) (by
  have h1:=cH x.den y.den
  omega) (gU x y)
 rw [←Bq] at hm
 clear h1 h2
 generalize x+y=r at *
 generalize x.num*y.den+y.num*x.den=s at *
 generalize x.num*y.den=u at *
 generalize y.num*x.den=w at *
 generalize x.den*y.den=d at *
 rw [nJ] at dx dy m1 m2
 refine Pg Tryz.func199 rfl [.cell 4 45] rfl (iJ _) ?_
 unfold fA iA qA at *
 simp -implicitDefEqProofs [go_sem]
 refine aa dy ?_
 simp -implicitDefEqProofs [go_sem]
 refine aa m1 ?_
 simp -implicitDefEqProofs [go_sem]
 refine aa dx ?_
 simp -implicitDefEqProofs [go_sem]
 refine aa m2 ?_
 simp -implicitDefEqProofs [go_sem]
 refine aa ha ?_
 simp -implicitDefEqProofs [go_sem]
 refine aa dx ?_
 simp -implicitDefEqProofs [go_sem]
 refine aa dy ?_
 simp -implicitDefEqProofs [go_sem]
 refine aa m3 ?_
 simp -implicitDefEqProofs [go_sem]
 refine aa hm ?_
 simp -implicitDefEqProofs [go_sem,aL]
theorem eT (x y:Rat) (hx:sz x≤17179869184) (hy:sz y≤17179869184):ag Tryz.prog 118 [fA x,fA y] (fA (x-y)):=by
 have h1:=eB y
 have h2:=fH x (-y) hx (by rw [sz_neg]; exact hy)
 rw [←Rat.sub_eq_add_neg] at h2
 generalize x-y=r at *
 generalize -y=m at *
 refine Pg Tryz.func118 rfl [.cell 4 45] rfl (iJ _) ?_
 unfold fA qA at *
 simp -implicitDefEqProofs [go_sem]
 refine aa h1 ?_
 simp -implicitDefEqProofs [go_sem]
 refine aa h2 ?_
 simp -implicitDefEqProofs [go_sem,aL]
theorem dJ {x y:Rat}:bJ x y<0↔x<y:=by
 unfold bJ
 rw [Rat.lt_iff]
 constructor
 ·intro h
  rcases Int.lt_or_le (x.num*y.den) (y.num*x.den) with h1|h1
  ·exact h1
  ·exfalso
   unfold cA at h
   rw [if_neg (by omega)] at h
   split at h<;>omega
 ·intro h; rw [eN h]; omega
theorem iZ {x y:Rat}:0<bJ x y↔y<x:=by
 unfold bJ
 rw [Rat.lt_iff]
 constructor
 ·intro h
  rcases Int.lt_or_le (y.num*x.den) (x.num*y.den) with h1|h1
  ·exact h1
  ·exfalso
   unfold cA at h
   split at h
   ·omega
   ·split at h<;>omega
 ·intro h; rw [dI h]; omega
theorem rq {x y:Rat}:bJ x y=0↔x=y:=by
 constructor
 ·intro h
  have h1:¬x<y:=fun h1=>by have:=dJ.2 h1; omega
  have h2:¬y<x:=fun h2=>by have:=iZ.2 h2; omega
  grind
 ·intro h
  have h1:¬bJ x y<0:=fun h1=>by have:=dJ.1 h1; grind
  have h2:¬0<bJ x y:=fun h1=>by have:=iZ.1 h1; grind
  omega
theorem iy {x:Rat}:aM x<0↔x<0:=by
 unfold aM ik
 rw [Rat.lt_iff]
 simp
 split
 ·simp_all
 ·split<;>simp_all
theorem eo {x:Rat}:aM x=0↔x=0:=by
 unfold aM ik
 rw [←Rat.num_eq_zero]
 split
 ·constructor<;>intro h<;>omega
 ·split<;>simp_all
theorem bQ {x:Rat}:0<aM x↔0<x:=by
 have h1 := @iy x
 have h2 := @eo x
 constructor
 ·intro h
  have:¬x<0:=fun h3=>by have:=h1.2 h3; omega
  have:¬x=0:=fun h3=>by have:=h2.2 h3; omega
  grind
 ·intro h
  have:¬aM x<0:=fun h3=>by have:=h1.1 h3; grind
  have:¬aM x=0:=fun h3=>by have:=h2.1 h3; grind
  omega
theorem cG (p q:Int) (hp : -9223372036854775808≤p∧p≤9223372036854775807) (hq : -9223372036854775808≤q∧q≤9223372036854775807) (h0:q≠0) :
 ag Tryz.prog 64 [.int .i64 p,.int .i64 q] (fA ((p:Rat) / (q:Rat))):=by
 have h1:=zU p hp
 have h2:=zU q hq
 have hsg:(if q<0 then -p else p)=fR (decide (p<0) != decide (q<0)) p.natAbs:=by
  unfold fR
  by_cases h3:p<0<;>by_cases h4:q<0<;>simp [h3,h4]<;>omega
 have hneg:decide (fR (decide (p<0) != decide (q<0)) p.natAbs<0)=((decide (p<0) != decide (q<0)) && decide (0<(ax 4294967296 p.natAbs).length)):=by
  rw [yd,An]
 have hm:=gY (if q<0 then -p else p) q.natAbs (by have:=nN hp; rw [show (if q<0 then -p else p).natAbs=p.natAbs by split<;>omega]; omega) (by have:=nN hq; omega) (by omega)
 rw [←pN] at hm
 rw [hsg] at hm
 generalize (p:Rat) / (q:Rat)=r at *
 refine Pg Tryz.func64 rfl [.cell 4 45] rfl (iJ _) ?_
 unfold fA iA qA at *
 rw [hneg,dO] at hm
 clear hneg hsg
 simp -implicitDefEqProofs [go_sem,h0]
 refine ac h1 ?_
 simp -implicitDefEqProofs [go_sem]
 refine ac h2 ?_
 simp -implicitDefEqProofs [go_sem]
 refine ⟨fun h=>?_,fun h=>?_⟩
 ·have hb:(decide (p<0) != decide (q<0))=true:=by
   by_cases h3:p<0<;>by_cases h4:q<0<;>simp [h3,h4] at h ⊢
  rw [hb,Bool.true_and] at hm
  refine ac hm ?_
  simp -implicitDefEqProofs [go_sem,aL]
 ·have hb:(decide (p<0) != decide (q<0))=false:=by
   by_cases h3:p<0<;>by_cases h4:q<0<;>simp [h3,h4] at h ⊢
  rw [hb,Bool.false_and] at hm
  refine ac hm ?_
  simp -implicitDefEqProofs [go_sem,aL]
theorem i7 (z:RQ) (m:Nat):ag Tryz.prog 62 [z.av,.int .i64 m] (.bool (decide (z.p.length≤m∧z.q.length≤m))):=by
 refine Pg Tryz.func62 rfl [.tmp 4] rfl (by simp -implicitDefEqProofs [go_sem]) ?_
 unfold RQ.av
 simp -implicitDefEqProofs [go_sem]
 exact ⟨fun h _=>h,fun h1 h2=>by omega⟩
structure RQ.In (n:Nat) (z:RQ):Prop where
 lp:z.p.length≤n
 limp:bZ 18446744073709551616 z.p
 lq:z.q.length≤n
 limq:bZ 18446744073709551616 z.q
theorem RQ.In.sm {n:Nat} {z:RQ} (h:z.In n) (hn:n≤17179869184:=by omega):z.Sm:=⟨Nat.le_trans h.lp hn,h.limp,Nat.le_trans h.lq hn,h.limq⟩
theorem RQ.In.mono {n m:Nat} {z:RQ} (h:z.In n) (hn:n≤m:=by omega):z.In m:=⟨Nat.le_trans h.lp hn,h.limp,Nat.le_trans h.lq hn,h.limq⟩
theorem RQ.In.sz {n:Nat} {z:RQ} (h:z.In n) (hn:1≤n:=by omega):Go.Proofs.YtdnmfaljidjijaaGreat.sz z.val≤n:=by
 have h1:=ws z.num z.den_ne
 have h2:nl z.num.natAbs≤z.p.length:=by unfold RQ.num; rw [dO]; exact qB h.limp
 have h3:nl z.den≤max 1 z.q.length:=by
  unfold RQ.den; split
  ·rw [jR]; omega
  ·have:=qB h.limq; omega
 have:=h.lp
 have:=h.lq
 unfold RQ.val
 omega
theorem fL {n:Nat} {x:Rat} (h:sz x≤n):(qc x).In n:=⟨Nat.le_trans (bX x) h,ay (by omega) _,Nat.le_trans (cf x) h,ay (by omega) _⟩
structure PR where
 x:RQ
 y:RQ
structure PQ where
 x:Rat
 y:Rat
def PR.av (p:PR):AV := .agg [.bool p.x.neg,nA p.x.p,nA p.x.q,.bool p.y.neg,nA p.y.p,nA p.y.q]
def PR.val (p:PR):PQ:=⟨p.x.val,p.y.val⟩
def pc (p:PQ):PR:=⟨qc p.x,qc p.y⟩
def pA (p:PQ):AV:=(pc p).av
theorem aO (p:PQ):(pc p).val=p:=by unfold PR.val pc; simp only [br]
theorem ju (p:PR):ro p.av:=by unfold PR.av; simp -implicitDefEqProofs [go_sem]
theorem iU (p:PQ):ro (pA p):=ju _
structure PR.In (n:Nat) (p:PR):Prop where
 x:p.x.In n
 y:p.y.In n
def PQ.sz (p:PQ):Nat:=max (Go.Proofs.YtdnmfaljidjijaaGreat.sz p.x) (Go.Proofs.YtdnmfaljidjijaaGreat.sz p.y)
theorem be {n:Nat} {p:PQ} (h:p.sz≤n):(pc p).In n:=⟨fL (Nat.le_trans (Nat.le_max_left _ _) h),fL (Nat.le_trans (Nat.le_max_right _ _) h)⟩
theorem PR.In.mono {n m:Nat} {z:PR} (h:z.In n) (hn:n≤m:=by omega):z.In m:=⟨h.x.mono hn,h.y.mono hn⟩
theorem pG (g:FuncId) (cap:List AV) (p q:PR) (rx ry:Rat) (hc:roL cap) (h1:ag Tryz.prog g (p.x.av::q.x.av::cap) (rA rx)) (h2:ag Tryz.prog g (p.y.av::q.y.av::cap) (rA ry)) :
 ag Tryz.prog 172 [p.av,q.av,.fn (.func g) [] cap] (pA ⟨rx,ry⟩):=by
 refine Pg Tryz.func172 rfl [.cell 6 72] rfl (iU _) ?_
 unfold pA PR.av pc rA RQ.av at *
 simp only at *
 generalize qc rx=cx at *
 generalize qc ry=cy at *
 simp -implicitDefEqProofs [go_sem]
 refine ao _ h1 (by simp [go_sem,hc]) ?_
 simp -implicitDefEqProofs [go_sem]
 refine ao _ h2 (by simp [go_sem,hc]) ?_
 simp -implicitDefEqProofs [go_sem,aL]
def PQ.add (p q:PQ):PQ:=⟨p.x+q.x,p.y+q.y⟩
def PQ.sub (p q:PQ):PQ:=⟨p.x-q.x,p.y-q.y⟩
def PQ.scale (p:PQ) (k:Rat):PQ:=⟨p.x*k,p.y*k⟩
def PQ.mix (p q:PQ) (t:Rat):PQ:=p.add ((q.sub p).scale t)
def PQ.dot (p q:PQ):Rat:=p.x*q.x+p.y*q.y
def PQ.cross (p q:PQ):Rat:=p.x*q.y-p.y*q.x
theorem dY (p q:PR) (hp:p.In 17179869184) (hq:q.In 17179869184):ag Tryz.prog 97 [p.av,q.av] (pA (p.val.add q.val)):=by
 have h:=pG 133 [] p q _ _ (by simp -implicitDefEqProofs [go_sem]) (mN p.x q.x hp.x.sm hq.x.sm) (mN p.y q.y hp.y.sm hq.y.sm)
 change ag _ _ _ (pA (p.val.add q.val)) at h
 generalize p.val.add q.val=r at *
 refine Pg Tryz.func97 rfl [.cell 4 72] rfl (iU _) ?_
 unfold pA PR.av at *
 generalize pc r=cr at *
 simp -implicitDefEqProofs [go_sem]
 refine ac h ?_
 simp -implicitDefEqProofs [go_sem,aL]
theorem cL (p q:PR) (hp:p.In 17179869184) (hq:q.In 17179869184):ag Tryz.prog 125 [p.av,q.av] (pA (p.val.sub q.val)):=by
 have h:=pG 171 [] p q _ _ (by simp -implicitDefEqProofs [go_sem]) (ij p.x q.x hp.x.sm hq.x.sm) (ij p.y q.y hp.y.sm hq.y.sm)
 change ag _ _ _ (pA (p.val.sub q.val)) at h
 generalize p.val.sub q.val=r at *
 refine Pg Tryz.func125 rfl [.cell 4 72] rfl (iU _) ?_
 unfold pA PR.av at *
 generalize pc r=cr at *
 simp -implicitDefEqProofs [go_sem]
 refine ac h ?_
 simp -implicitDefEqProofs [go_sem,aL]
def RQ.cells (z:RQ):List AV:=[.bool z.neg,nA z.p,nA z.q]
theorem qG (a b k:RQ) (ha:a.In 17179869184) (hk:k.In 17179869184):ag Tryz.prog 202 [a.av,b.av,.rp k.cells] (rA (a.val*k.val)):=by
 have h:=dC a k ha.sm hk.sm
 generalize a.val*k.val=r at *
 refine Pg Tryz.func202 rfl [.cell 5 27] rfl (dD _) ?_
 unfold RQ.cells rA RQ.av at *
 generalize qc r=cr at *
 simp -implicitDefEqProofs [go_sem]
 refine ac h ?_
 simp -implicitDefEqProofs [go_sem,aL]
theorem iI (p:PR) (k:RQ) (hp:p.In 17179869184) (hk:k.In 17179869184):ag Tryz.prog 124 [p.av,k.av] (pA (p.val.scale k.val)):=by
 have h:=pG 202 [.rp k.cells] p p _ _ (by simp -implicitDefEqProofs [go_sem,RQ.cells]) (qG p.x p.x k hp.x hk) (qG p.y p.y k hp.y hk)
 change ag _ _ _ (pA (p.val.scale k.val)) at h
 generalize p.val.scale k.val=r at *
 refine Pg Tryz.func124 rfl [.cell 4 72] rfl (iU _) ?_
 unfold pA PR.av RQ.cells RQ.av at *
 generalize pc r=cr at *
 simp -implicitDefEqProofs [go_sem]
 refine cq [1] _ h (by simp -implicitDefEqProofs [go_sem]) (by simp -implicitDefEqProofs [go_sem]) (by simp -implicitDefEqProofs [go_sem]) (by simp -implicitDefEqProofs [go_sem]) ?_
 simp -implicitDefEqProofs [go_sem,aL]
theorem PQ.sz_x (p:PQ):Go.Proofs.YtdnmfaljidjijaaGreat.sz p.x≤p.sz:=Nat.le_max_left _ _
theorem PQ.sz_y (p:PQ):Go.Proofs.YtdnmfaljidjijaaGreat.sz p.y≤p.sz:=Nat.le_max_right _ _
theorem PR.In.sz {n:Nat} {z:PR} (h:z.In n) (hn:1≤n:=by omega):z.val.sz≤n:=Nat.max_le.2 ⟨h.x.sz hn,h.y.sz hn⟩
theorem PQ.sz_add (p q:PQ):(p.add q).sz≤p.sz+q.sz+1:=by
 have:=Go.Proofs.YtdnmfaljidjijaaGreat.sz_add p.x q.x; have:=Go.Proofs.YtdnmfaljidjijaaGreat.sz_add p.y q.y
 have:=p.sz_x; have:=p.sz_y; have:=q.sz_x; have:=q.sz_y
 refine Nat.max_le.2 ⟨?_,?_⟩<;>simp only [PQ.add]<;>omega
theorem PQ.sz_sub (p q:PQ):(p.sub q).sz≤p.sz+q.sz+1:=by
 have:=Go.Proofs.YtdnmfaljidjijaaGreat.sz_sub p.x q.x; have:=Go.Proofs.YtdnmfaljidjijaaGreat.sz_sub p.y q.y
 have:=p.sz_x; have:=p.sz_y; have:=q.sz_x; have:=q.sz_y
 refine Nat.max_le.2 ⟨?_,?_⟩<;>simp only [PQ.sub]<;>omega
theorem PQ.sz_scale (p:PQ) (k:Rat):(p.scale k).sz≤p.sz+Go.Proofs.YtdnmfaljidjijaaGreat.sz k:=by
 have:=aJ p.x k; have:=aJ p.y k
 have:=p.sz_x; have:=p.sz_y
 refine Nat.max_le.2 ⟨?_,?_⟩<;>simp only [PQ.scale]<;>omega
theorem FO (p q:PR) (t:RQ) (hp:p.In 1073741824) (hq:q.In 1073741824) (ht:t.In 1073741824):ag Tryz.prog 55 [p.av,q.av,t.av] (pA (p.val.mix q.val t.val)):=by
 have h1:=cL q p hq.mono hp.mono
 have s1:=PQ.sz_sub q.val p.val
 have sp:=hp.sz; have sq:=hq.sz; have st:=ht.sz
 have h2:=iI (pc (q.val.sub p.val)) t (be (by omega)) ht.mono
 rw [aO] at h2
 have s2:=PQ.sz_scale (q.val.sub p.val) t.val
 have h3:=dY p (pc ((q.val.sub p.val).scale t.val)) hp.mono (be (by omega))
 rw [aO] at h3
 change ag _ _ _ (pA (p.val.mix q.val t.val)) at h3
 generalize p.val.mix q.val t.val=r at *
 generalize (q.val.sub p.val).scale t.val=u at *
 generalize q.val.sub p.val=v at *
 refine Pg Tryz.func55 rfl [.cell 6 72] rfl (iU _) ?_
 unfold pA PR.av RQ.av at *
 generalize pc r=cr at *
 generalize pc u=cu at *
 generalize pc v=cv at *
 simp -implicitDefEqProofs [go_sem]
 refine aa h1 ?_
 simp -implicitDefEqProofs [go_sem]
 refine aa h2 ?_
 simp -implicitDefEqProofs [go_sem]
 refine aa h3 ?_
 simp -implicitDefEqProofs [go_sem,aL]
theorem je (p q:PR) (hp:p.In 4294967296) (hq:q.In 4294967296):ag Tryz.prog 131 [p.av,q.av] (rA (p.val.dot q.val)):=by
 have sp:=hp.sz; have sq:=hq.sz
 have:=p.val.sz_x; have:=p.val.sz_y; have:=q.val.sz_x; have:=q.val.sz_y
 have h1:=dC p.x q.x hp.x.sm hq.x.sm
 have h2:=dC p.y q.y hp.y.sm hq.y.sm
 change ag _ _ _ (rA (p.val.x*q.val.x)) at h1
 change ag _ _ _ (rA (p.val.y*q.val.y)) at h2
 have s1:=aJ p.val.x q.val.x
 have s2:=aJ p.val.y q.val.y
 have h3:=mN (qc (p.val.x*q.val.x)) (qc (p.val.y*q.val.y)) (c_ (by omega)) (c_ (by omega))
 rw [br,br] at h3
 change ag _ _ _ (rA (p.val.dot q.val)) at h3
 generalize p.val.dot q.val=r at *
 generalize p.val.x*q.val.x=u at *
 generalize p.val.y*q.val.y=v at *
 refine Pg Tryz.func131 rfl [.cell 4 27] rfl (dD _) ?_
 unfold PR.av rA RQ.av at *
 generalize qc r=cr at *
 generalize qc u=cu at *
 generalize qc v=cv at *
 simp -implicitDefEqProofs [go_sem]
 refine aa h1 ?_
 simp -implicitDefEqProofs [go_sem]
 refine aa h2 ?_
 simp -implicitDefEqProofs [go_sem]
 refine aa h3 ?_
 simp -implicitDefEqProofs [go_sem,aL]
theorem jI (p q:PR) (hp:p.In 4294967296) (hq:q.In 4294967296):ag Tryz.prog 94 [p.av,q.av] (rA (p.val.cross q.val)):=by
 have sp:=hp.sz; have sq:=hq.sz
 have:=p.val.sz_x; have:=p.val.sz_y; have:=q.val.sz_x; have:=q.val.sz_y
 have h1:=dC p.x q.y hp.x.sm hq.y.sm
 have h2:=dC p.y q.x hp.y.sm hq.x.sm
 change ag _ _ _ (rA (p.val.x*q.val.y)) at h1
 change ag _ _ _ (rA (p.val.y*q.val.x)) at h2
 have s1:=aJ p.val.x q.val.y
 have s2:=aJ p.val.y q.val.x
 have h3:=ij (qc (p.val.x*q.val.y)) (qc (p.val.y*q.val.x)) (c_ (by omega)) (c_ (by omega))
 rw [br,br] at h3
 change ag _ _ _ (rA (p.val.cross q.val)) at h3
 generalize p.val.cross q.val=r at *
 generalize p.val.x*q.val.y=u at *
 generalize p.val.y*q.val.x=v at *
 refine Pg Tryz.func94 rfl [.cell 4 27] rfl (dD _) ?_
 unfold PR.av rA RQ.av at *
 generalize qc r=cr at *
 generalize qc u=cu at *
 generalize qc v=cv at *
 simp -implicitDefEqProofs [go_sem]
 refine aa h1 ?_
 simp -implicitDefEqProofs [go_sem]
 refine aa h2 ?_
 simp -implicitDefEqProofs [go_sem]
 refine aa h3 ?_
 simp -implicitDefEqProofs [go_sem,aL]
theorem PQ.ext {p q:PQ} (h1:p.x=q.x) (h2:p.y=q.y):p=q:=by cases p; cases q; simp_all
theorem PQ.eq_iff {p q:PQ}:p=q↔p.x=q.x∧p.y=q.y:=⟨fun h=>by subst h; exact ⟨rfl,rfl⟩,fun h=>PQ.ext h.1 h.2⟩
instance:DecidableEq PQ:=fun p q=>decidable_of_iff _ PQ.eq_iff.symm
theorem nQ (p q:PR) (hp:p.In 17179869184) (hq:q.In 17179869184):ag Tryz.prog 33 [p.av,q.av] (.bool (decide (p.val=q.val))):=by
 have h1:=fM p.x q.x hp.x.sm hq.x.sm
 have h2:=fM p.y q.y hp.y.sm hq.y.sm
 have e1 := @rq p.x.val q.x.val
 have e2 := @rq p.y.val q.y.val
 have e3:p.val=q.val↔bJ p.x.val q.x.val=0∧bJ p.y.val q.y.val=0:=by
  rw [e1,e2,PQ.eq_iff]; rfl
 simp only [e3]
 generalize bJ p.x.val q.x.val=c1 at *
 generalize bJ p.y.val q.y.val=c2 at *
 refine Pg Tryz.func33 rfl [.tmp 4] rfl (by simp -implicitDefEqProofs [go_sem]) ?_
 unfold PR.av RQ.av at *
 simp -implicitDefEqProofs [go_sem]
 refine ac h1 ?_
 by_cases hc:c1=0
 ·simp -implicitDefEqProofs [go_sem,hc]
  refine ac h2 ?_
  simp -implicitDefEqProofs [go_sem,hc]
 ·simp -implicitDefEqProofs [go_sem,hc]
def PQ.far (p q:PQ):Rat:=(p.sub q).dot (p.sub q)
theorem vS (p q:PR) (hp:p.In 1073741824) (hq:q.In 1073741824):ag Tryz.prog 132 [p.av,q.av] (rA (p.val.far q.val)):=by
 have sp:=hp.sz; have sq:=hq.sz
 have h1:=cL p q hp.mono hq.mono
 have s1:=PQ.sz_sub p.val q.val
 have h2:=je (pc (p.val.sub q.val)) (pc (p.val.sub q.val)) (be (by omega)) (be (by omega))
 rw [aO] at h2
 change ag _ _ _ (rA (p.val.far q.val)) at h2
 generalize p.val.far q.val=r at *
 generalize p.val.sub q.val=v at *
 refine Pg Tryz.func132 rfl [.cell 4 27] rfl (dD _) ?_
 unfold pA PR.av rA RQ.av at *
 generalize qc r=cr at *
 generalize pc v=cv at *
 simp -implicitDefEqProofs [go_sem]
 refine ac h1 ?_
 simp -implicitDefEqProofs [go_sem]
 refine ac h2 ?_
 simp -implicitDefEqProofs [go_sem,aL]
def PQ.orient (a b c:PQ):Int:=aM ((b.sub a).cross (c.sub a))
theorem xU (a b c:PR) (ha:a.In 1073741824) (hb:b.In 1073741824) (hc:c.In 1073741824):ag Tryz.prog 127 [a.av,b.av,c.av] (.int .i64 (PQ.orient a.val b.val c.val)):=by
 have sa:=ha.sz; have sb:=hb.sz; have sc:=hc.sz
 have h1:=cL b a hb.mono ha.mono
 have h2:=cL c a hc.mono ha.mono
 have s1:=PQ.sz_sub b.val a.val
 have s2:=PQ.sz_sub c.val a.val
 have h3:=jI (pc (b.val.sub a.val)) (pc (c.val.sub a.val)) (be (by omega)) (be (by omega))
 rw [aO,aO] at h3
 have s3:sz ((b.val.sub a.val).cross (c.val.sub a.val))≤17179869184:=by
  unfold PQ.cross
  generalize b.val.sub a.val=u at *
  generalize c.val.sub a.val=v at *
  have:=sz_sub (u.x*v.y) (u.y*v.x); have:=aJ u.x v.y; have:=aJ u.y v.x
  have:=u.sz_x; have:=u.sz_y; have:=v.sz_x; have:=v.sz_y
  omega
 have h4:=bI (qc ((b.val.sub a.val).cross (c.val.sub a.val))) (c_ s3).ok
 rw [br] at h4
 change ag _ _ _ (.int .i64 (PQ.orient a.val b.val c.val)) at h4
 generalize PQ.orient a.val b.val c.val=s at *
 generalize (b.val.sub a.val).cross (c.val.sub a.val)=r at *
 generalize b.val.sub a.val=u at *
 generalize c.val.sub a.val=v at *
 refine Pg Tryz.func127 rfl [.tmp 6] rfl (by simp -implicitDefEqProofs [go_sem]) ?_
 unfold pA PR.av rA RQ.av at *
 generalize qc r=cr at *
 generalize pc u=cu at *
 generalize pc v=cv at *
 simp -implicitDefEqProofs [go_sem]
 refine aa h1 ?_
 simp -implicitDefEqProofs [go_sem]
 refine aa h2 ?_
 simp -implicitDefEqProofs [go_sem]
 refine aa h3 ?_
 simp -implicitDefEqProofs [go_sem]
 refine aa h4 ?_
 simp -implicitDefEqProofs [go_sem]
def bB:Rat:=((1:Int):Rat) / ((2:Int):Rat)
theorem fv:sz bB≤1:=by
 unfold bB
 rw [pN]
 have:=ws (if (2:Int)<0 then -1 else 1) (d:=(2:Int).natAbs) (by decide)
 simp at this ⊢
 have h1:nl 1=1:=jR
 have h2:nl 2≤1:=Ao (by omega)
 omega
theorem cQ (x:Rat):0≤x*x:=by
 rcases (Rat.le_total:0≤x∨x≤0) with h|h
 ·exact Rat.mul_nonneg h h
 ·have:=Rat.mul_nonneg (show 0 ≤ -x by grind) (show 0 ≤ -x by grind)
  grind
theorem PQ.dot_nn (p:PQ):0≤p.dot p:=by
 have h1:=cQ p.x; have h2:=cQ p.y
 unfold PQ.dot
 grind
theorem gy (h:RQ):roL [.bool h.neg,nA h.p,nA h.q]:=by simp -implicitDefEqProofs [go_sem]
theorem PQ.sz_dot (p q:PQ):Go.Proofs.YtdnmfaljidjijaaGreat.sz (p.dot q)≤2*(p.sz+q.sz)+1:=by
 have h1:=aJ p.x q.x; have h2:=aJ p.y q.y
 have h3:=Go.Proofs.YtdnmfaljidjijaaGreat.sz_add (p.x*q.x) (p.y*q.y)
 have:=p.sz_x; have:=p.sz_y; have:=q.sz_x; have:=q.sz_y
 unfold PQ.dot; omega
theorem PQ.sz_cross (p q:PQ):Go.Proofs.YtdnmfaljidjijaaGreat.sz (p.cross q)≤2*(p.sz+q.sz)+1:=by
 have h1:=aJ p.x q.y; have h2:=aJ p.y q.x
 have h3:=Go.Proofs.YtdnmfaljidjijaaGreat.sz_sub (p.x*q.y) (p.y*q.x)
 have:=p.sz_x; have:=p.sz_y; have:=q.sz_x; have:=q.sz_y
 unfold PQ.cross; omega
theorem PQ.sz_far (p q:PQ):Go.Proofs.YtdnmfaljidjijaaGreat.sz (p.far q)≤4*(p.sz+q.sz+1)+1:=by
 have h1:=PQ.sz_sub p q
 have h2:=PQ.sz_dot (p.sub q) (p.sub q)
 unfold PQ.far; omega
theorem PQ.sz_mix (p q:PQ) (t:Rat):(p.mix q t).sz≤2*p.sz+q.sz+Go.Proofs.YtdnmfaljidjijaaGreat.sz t+2:=by
 have q1:=PQ.sz_sub q p
 have q2:=PQ.sz_scale (q.sub p) t
 have q3:=PQ.sz_add p ((q.sub p).scale t)
 unfold PQ.mix; omega
theorem dc:bB=((1:Int):Rat) / ((2:Int):Rat):=rfl
theorem bR {x:Rat}:aM x≤0↔x≤0:=by
 have := @bQ x
 constructor
 ·intro h; rcases (Rat.le_total:x≤0∨0≤x) with h1|h1
  ·exact h1
  ·have:¬0<x:=fun h2=>by have:=this.2 h2; omega
   grind
 ·intro h
  have:¬0<aM x:=fun h2=>by have:=this.1 h2; grind
  omega
theorem iu {x y:Rat}:bJ x y≤0↔x≤y:=by
 have := @iZ x y
 constructor
 ·intro h; rcases (Rat.le_total:x≤y∨y≤x) with h1|h1
  ·exact h1
  ·have:¬y<x:=fun h2=>by have:=this.2 h2; omega
   grind
 ·intro h
  have:¬0<bJ x y:=fun h2=>by have:=this.1 h2; grind
  omega
theorem G2 (p q:PQ):p.far q=q.far p:=by
 simp only [PQ.far,PQ.dot,PQ.sub]; grind
theorem eH:sz (1:Rat)=1:=by
 have:=nX 1
 rw [show ((1:Int):Rat)=1 by rfl] at this
 rw [this,show (1:Int).natAbs=1 by rfl,jR]; rfl
theorem MN (x:Rat):1≤sz x:=by
 have h1:=cf x
 have h2:=dN (Nat.one_le_iff_ne_zero.2 x.den_nz)
 rw [jR] at h2
 omega
theorem MM (x:Rat):sz x⁻¹≤sz x:=by
 have h0:=MN x
 have h1:=bX x
 have h2:=cf x
 have e1:nl (x⁻¹).num.natAbs≤nl x.den:=by
  rw [Rat.num_inv,Int.natAbs_mul]
  refine dN ?_
  have:x.num.sign.natAbs≤1:=by
   rcases Int.sign_trichotomy x.num with h|h|h<;>rw [h]<;>decide
  calc x.num.sign.natAbs*(x.den:Int).natAbs≤1*(x.den:Int).natAbs:=Nat.mul_le_mul_right _ this
   _=x.den:=by simp
 have e2:nl (x⁻¹).den≤sz x:=by
  rw [Rat.den_inv]
  split
  ·rw [jR]; exact h0
  ·exact h1
 conv=>lhs; unfold sz
 omega
theorem iS (x y:Rat):sz (x / y)≤sz x+sz y:=by
 rw [Rat.div_def]
 have:=aJ x y⁻¹
 have:=MM y
 omega
theorem gD {p q:Int} (hp : -9223372036854775808≤p∧p≤9223372036854775807) (hq : -9223372036854775808≤q∧q≤9223372036854775807) (h0:q≠0):sz ((p:Rat) / (q:Rat))≤1:=by
 rw [pN]
 have h:=ws (if q<0 then -p else p) (d:=q.natAbs) (by omega)
 have h1:=nN hp
 have h2:=nN hq
 have h3:(if q<0 then -p else p).natAbs=p.natAbs:=by split<;>simp
 rw [h3] at h
 omega
theorem Aa:bZ 18446744073709551616 []:=fun _ h=>by cases h
def vW:RQ:=⟨false,[],[]⟩
theorem x9 {n:Nat}:vW.In n:=⟨Nat.zero_le _,Aa,Nat.zero_le _,Aa⟩
theorem fS {f:Nat→BS} {sz id:Nat} {L:List AV} (hr:roL L) (h:L≠[]→f id = .live sz L):aZ f (di sz id L)∧ro (bg f (di sz id L))∧Wk (bg f (di sz id L)) (.sl sz false L):=by
 by_cases h0:L=[]
 ·subst h0
  refine ⟨by simp [di,aZ,fitsL],by simp [di,bg,ro,roL],?_⟩
  simp only [di,if_true,bg]
  exact Wk.nil 0 sz true
 ·rw [aV h0]
  simp only [aZ,bg,h h0,Nat.zero_add,List.drop_zero,List.take_length,ro]
  exact ⟨Nat.le_refl _,hr,Wk.refl _⟩
def eA (p:PQ):AV := .agg [.bool (decide (p.x.num<0)),qA p.x.num.natAbs,qA p.x.den,.bool (decide (p.y.num<0)),qA p.y.num.natAbs,qA p.y.den]
theorem qE (p:PQ):ro (eA p):=by unfold eA qA; simp -implicitDefEqProofs [go_sem]
theorem GZ (x y:Int) (hx : -9223372036854775808≤x∧x≤9223372036854775807) (hy : -9223372036854775808≤y∧y≤9223372036854775807):ag Tryz.prog 138 [.int .i64 x,.int .i64 y] (eA ⟨x,y⟩):=by
 have h1:=cG x 1 hx (by omega) (by omega)
 have h2:=cG y 1 hy (by omega) (by omega)
 rw [show ((x:Int):Rat) / ((1:Int):Rat)=x by rw [show ((1:Int):Rat)=1 from rfl]; grind] at h1
 rw [show ((y:Int):Rat) / ((1:Int):Rat)=y by rw [show ((1:Int):Rat)=1 from rfl]; grind] at h2
 unfold eA
 simp only
 generalize (x:Rat)=rx at *
 generalize (y:Rat)=ry at *
 refine Pg Tryz.func138 rfl [.cell 4 118] rfl (by simp -implicitDefEqProofs [go_sem,qA]) ?_
 unfold fA qA at *
 simp -implicitDefEqProofs [go_sem]
 refine ac h1 ?_
 simp -implicitDefEqProofs [go_sem]
 refine ac h2 ?_
 simp -implicitDefEqProofs [go_sem,aL]
theorem eO (p:PQ) (h:p.sz<549755813888):ag Tryz.prog 56 [eA p] (pA p):=by
 have:=p.sz_x; have:=p.sz_y
 have h1:=pU p.x (by omega)
 have h2:=pU p.y (by omega)
 unfold pA pc PR.av
 refine Pg Tryz.func56 rfl [.cell 2 72] rfl (ju _) ?_
 unfold eA fA rA RQ.av qA at *
 simp only at *
 generalize qc p.x=c1 at *
 generalize qc p.y=c2 at *
 simp -implicitDefEqProofs [go_sem]
 refine aa h1 ?_
 simp -implicitDefEqProofs [go_sem]
 refine aa h2 ?_
 simp -implicitDefEqProofs [go_sem,aL]
theorem nW {x:Int} (hx : -9223372036854775808≤x∧x≤9223372036854775807):sz (x:Rat)≤1:=by
 rw [nX]; have:=nN hx; omega
theorem J6 (x y:Int) (hx : -9223372036854775808≤x∧x≤9223372036854775807) (hy : -9223372036854775808≤y∧y≤9223372036854775807):ag Tryz.prog 67 [.int .i64 x,.int .i64 y] (pA ⟨x,y⟩):=by
 have h1:=GZ x y hx hy
 have h2:=eO ⟨x,y⟩ (by
  have:=nW hx; have:=nW hy
  unfold PQ.sz; simp only; omega)
 generalize (⟨x,y⟩:PQ)=p at *
 refine Pg Tryz.func67 rfl [.cell 4 72] rfl (iU _) ?_
 unfold eA pA PR.av qA at *
 generalize pc p=c at *
 simp -implicitDefEqProofs [go_sem]
 refine ac h1 ?_
 simp -implicitDefEqProofs [go_sem]
 refine ac h2 ?_
 simp -implicitDefEqProofs [go_sem,aL]
def pZ:AV := .agg [.bool false,.sl 0 true [],.sl 0 true [],.bool false,.sl 0 true [],.sl 0 true []]
theorem jJ (p q:PQ) (hp:p.sz≤17179869184) (hq:q.sz≤17179869184):ag Tryz.prog 33 [pA p,pA q] (.bool (decide (p=q))):=by
 have h:=nQ (pc p) (pc q) (be hp) (be hq)
 rw [aO,aO] at h
 exact h
def wP (x y:Int):PQ:=⟨x,y⟩
theorem Qa {x y:Int} (hx : -1000≤x∧x≤1000) (hy : -1000≤y∧y≤1000):(wP x y).sz≤1:=by
 have:=nW (x:=x) (by omega); have:=nW (x:=y) (by omega)
 unfold PQ.sz wP; simp only; omega
theorem pp (x y:Int) (hx : -1000≤x∧x≤1000) (hy : -1000≤y∧y≤1000):ag Tryz.prog 67 [.int .i64 x,.int .i64 y] (pA (wP x y)):=J6 x y (by omega) (by omega)
def kD (l:List PQ):List (PQ×PQ):=((List.range l.length).map fun i=>(l.getD i ⟨0,0⟩,l.getD ((i+1)%l.length) ⟨0,0⟩)).filter fun e=>decide (e.1.y≠e.2.y)
theorem H6 {L:List AV} (h:∀a∈L,∃n:Int,a = .int .u64 n∧(Lit.int .u64 n).wf=true):∃p:List Nat,bZ 18446744073709551616 p∧L=uA .u64 p:=by
 induction L with
 | nil=>exact ⟨[],by simp [bZ],rfl⟩
 | cons a L ih =>
  obtain ⟨p,h1,rfl⟩:=ih fun x hx=>h x (by simp [hx])
  obtain ⟨n,rfl,hw⟩:=h a (by simp)
  simp only [Lit.wf,Bool.and_eq_true,decide_eq_true_eq] at hw
  have e1:IntKind.u64.min=0:=by decide
  have e2:IntKind.u64.max=18446744073709551615:=by decide
  rw [e1,e2] at hw
  refine ⟨n.toNat::p,fun x hx=>?_,?_⟩
  ·rcases List.mem_cons.1 hx with rfl|hx
   ·omega
   ·exact h1 x hx
  ·simp only [uA,List.map_cons]
   rw [show ((n.toNat:Nat):Int)=n by omega]
section
variable {H:Type} {enc:TypeId×Value→H} {w:World}
theorem D0:oe enc Tryz.prog w 23 fun l=>∃p,bZ 18446744073709551616 p∧l=[nA p] :=
 (ni (R:=fun a=>∃n:Int,a = .int .u64 n∧(Lit.int .u64 n).wf=true) (fun l ⟨n,h1,h2⟩=>⟨_,h1,n,rfl,h2⟩) (e:=149) (by kernel_rfl) (by kernel_rfl) (rG (k := .u64) (by kernel_rfl))).mono fun l ⟨L,h1,h2,h3⟩=>by
  obtain ⟨p,hp,rfl⟩:=H6 h3
  exact ⟨p,hp,h1⟩
theorem J4:oe enc Tryz.prog w 25 fun l=>∃s p,bZ 18446744073709551616 p∧l=[.bool s,nA p] :=
 (rH (t0:=4) (t1:=23) (n0:=1) (n1:=1) (by kernel_rfl) (by kernel_rfl) (At (by kernel_rfl)) D0).mono fun l ⟨l0,l1,h,⟨b,h0⟩,p,hp,h1⟩=>⟨b,p,hp,by rw [h,h0,h1]; rfl⟩
def RQ.Lm (z:RQ):Prop:=bZ 18446744073709551616 z.p∧bZ 18446744073709551616 z.q
def PR.Lm (c:PR):Prop:=c.x.Lm∧c.y.Lm
def RQ.cs (z:RQ):List AV:=[.bool z.neg,nA z.p,nA z.q]
theorem mL:oe enc Tryz.prog w 27 fun l=>∃z:RQ,z.Lm∧l=z.cs :=
 (rH (t0:=25) (t1:=23) (n0:=2) (n1:=1) (by kernel_rfl) (by kernel_rfl) J4 D0).mono fun l ⟨l0,l1,h,⟨b,p,hp,h0⟩,q,hq,h1⟩=>⟨⟨b,p,q⟩,⟨hp,hq⟩,by rw [h,h0,h1]; rfl⟩
end
open Go.ChangeShapes Go.WideShapes Go.ChangeAt Go.RowKit
theorem Tryz.own:ownKnob Tryz.prog.godebug=none:=by kernel_rfl
theorem Tryz.laidOut:laidOutB Tryz.prog=true:=by kernel_rfl
theorem Tryz.underBool:Tryz.prog.underlying 4=some .bool:=by kernel_rfl
section
variable {H:Type} {enc:TypeId×Value→H} {P:Program} {w:World}
def H_:Nat→List (TypeId×Nat)→List (Nat×TypeId)
 | _,[]=>[]
 | n,(t,k)::r=>(n,t)::H_ (n+k) r
def m8:List (TypeId×Nat)→Nat
 | []=>0
 | (_,k)::r=>k+m8 r
def La:List (TypeId×Nat×(List AV→Prop))→List AV→Prop
 | [],l=>l=[]
 | (_,_,Q)::r,l=>∃a b,l=a++b∧Q a∧La r b
theorem vR {cs:List Value}:∀(fs:List (TypeId×Nat×(List AV→Prop))) (off:Nat),(∀f∈fs,oe enc P w f.1 f.2.2) →
 (∀(i:Nat) (o:Nat) (t:TypeId),(H_ off (fs.map fun f=>(f.1,f.2.1)))[i]?=some (o,t)→∃m x,DataW.trod enc P w 0 (fun _=>true) true m t ((cs.drop o).take (P.cellsOf t))=some x) →
 fs.map (fun f=>P.cellsOf f.1)=fs.map (fun f=>f.2.1) →
 ∃l,La fs l∧(∀cx:Cx,cx.w=w→(∀b,¬cx.F b)→Rl cx l ((cs.drop off).take (m8 (fs.map fun f=>(f.1,f.2.1)))))∧∀u∈(cs.drop off).take (m8 (fs.map fun f=>(f.1,f.2.1))),u.oneCell'=true
 | [],off,_,_,_=>⟨[],rfl,fun cx _ _=>by simp [m8,Rl],by simp [m8]⟩
 | (t,k,Q)::r,off,ho,hp,hc=>by
  simp only [List.map_cons,List.cons.injEq] at hc
  obtain ⟨m,x,hx⟩:=hp 0 off t rfl
  rw [hc.1] at hx
  obtain ⟨a,a1,a2,a3⟩:=ho (t,k,Q) (by simp) _ _ _ hx
  obtain ⟨b,b1,b2,b3⟩:=vR r (off+k) (fun f hf=>ho f (by simp [hf])) (fun i o t' h=>hp (i+1) o t' h) hc.2
  have e:(cs.drop off).take (k+m8 (r.map fun f=>(f.1,f.2.1)))=(cs.drop off).take k++(cs.drop (off+k)).take (m8 (r.map fun f=>(f.1,f.2.1))):=by
   rw [List.take_add,List.drop_drop]
  refine ⟨a++b,⟨a,b,rfl,a1,b1⟩,fun cx e1 e2=>?_,fun u hu=>?_⟩
  ·simp only [List.map_cons,m8]; rw [e]; exact (a2 cx e1 e2).append (b2 cx e1 e2)
  ·simp only [List.map_cons,m8] at hu
   rw [e] at hu
   rcases List.mem_append.1 hu with h|h
   ·exact a3 u h
   ·exact b3 u h
theorem Ic {t:TypeId} (fs:List (TypeId×Nat×(List AV→Prop))) (ht:IG P t=some (H_ 0 (fs.map fun f=>(f.1,f.2.1)))) (hc:fs.map (fun f=>P.cellsOf f.1)=fs.map (fun f=>f.2.1)) (hn:P.cellsOf t=m8 (fs.map fun f=>(f.1,f.2.1)))
 (ho:∀f∈fs,oe enc P w f.1 f.2.2):oe enc P w t (La fs):=fun fuel cs x h=>by
 obtain ⟨gs,k1,k2⟩:=qi ht
 obtain ⟨xs,m,_,rfl,hl,hlen,hf⟩:=DataW.trod_struct k1 h
 obtain ⟨l,l1,l2,l3⟩:=vR (cs:=cs) fs 0 ho (fun i o t' hi=>by
  rw [←k2,List.getElem?_map] at hi
  cases hg:gs.toList[i]? with
  | none=>rw [hg] at hi; cases hi
  | some g =>
   rw [hg] at hi
   simp only [Option.map_some,Option.some.injEq,Prod.mk.injEq] at hi
   obtain ⟨rfl,rfl⟩:=hi
   have h1:=hf i g (by simpa using hg)
   have hlt:i<gs.size:=by simpa using (List.getElem?_eq_some_iff.1 hg).1
   rw [List.getElem?_eq_getElem (by omega)] at h1
   exact ⟨_,_,h1⟩) hc
 rw [List.drop_zero,List.take_of_length_le (by omega)] at l2 l3
 exact ⟨l,l1,l2,l3⟩
theorem Ja {W:World} {r:Reach} {b:Nat} {t e:TypeId} {n:Nat} {v:Value} (ht:P.underlying t=some (.array n e)) (h:Value.okWide P W r b t v):∃vs,v = .agg vs:=by
 unfold Value.okWide at h
 rw [ht] at h
 cases v<;>first|exact ⟨_,rfl⟩|(simp [Cell.okWide,Cell.ok,ht] at h; done)
def HM (P:Program) (t:TypeId):Bool:=match P.underlying t with
 | some (.struct _)=>true
 | some (.array _ _)=>true
 | _=>false
theorem ft {W:World} {r:Reach} {b:Nat} {t:TypeId} {v:Value} (ht:HM P t=true) (h:Value.okWide P W r b t v):∃vs,v = .agg vs:=by
 unfold HM at ht
 split at ht
 ·next gs k1 =>
  unfold Value.okWide at h
  rw [k1] at h
  cases v<;>first|exact ⟨_,rfl⟩|(simp [Cell.okWide,Cell.ok,k1] at h; done)
 ·next n e k1=>exact Ja k1 h
 ·cases ht
theorem iQ {cx:Cx} {l:List AV} {v:Value} (ha:∃vs,v = .agg vs) (h1:∀u∈v.cells.toList,u.oneCell'=true) (h:Rl cx l v.cells.toList):Rl cx [.agg l] [v]:=by
 obtain ⟨vs,rfl⟩:=ha
 simp only [Rl,Rv]
 exact ⟨_,_,rfl,⟨_,rfl,by simpa [Value.cells] using h1,by simpa [Value.cells] using h⟩,rfl⟩
end
section
variable {H:Type} {enc:TypeId×Value→H} {w:World}
def PR.co (c:PR):List AV:=c.x.cs++c.y.cs
theorem Mo:oe enc Tryz.prog w 72 fun l=>∃c:PR,c.Lm∧l=c.co :=
 (rH (t0:=27) (t1:=27) (n0:=3) (n1:=3) (by kernel_rfl) (by kernel_rfl) mL mL).mono fun l ⟨l0,l1,h,⟨x,hx,h0⟩,y,hy,h1⟩=>⟨⟨x,y⟩,⟨hx,hy⟩,by rw [h,h0,h1]; rfl⟩
end
theorem Il (x y:Rat) (hx:sz x≤17179869184) (hy:sz y≤17179869184):ag Tryz.prog 133 [rA x,rA y] (rA (x+y)):=by
 have h:=mN (qc x) (qc y) (c_ hx) (c_ hy)
 rw [br,br] at h; exact h
theorem K2 (x y:Rat) (hx:sz x≤17179869184) (hy:sz y≤17179869184):ag Tryz.prog 171 [rA x,rA y] (rA (x-y)):=by
 have h:=ij (qc x) (qc y) (c_ hx) (c_ hy)
 rw [br,br] at h; exact h
theorem li (x y:Rat) (hx:sz x≤17179869184) (hy:sz y≤17179869184):ag Tryz.prog 58 [rA x,rA y] (rA (x*y)):=by
 have h:=dC (qc x) (qc y) (c_ hx) (c_ hy)
 rw [br,br] at h; exact h
theorem AF (x y:Rat) (hx:sz x≤17179869184) (hy:sz y≤17179869184) (h0:y≠0):ag Tryz.prog 130 [rA x,rA y] (.tup [rA (x / y),.int .i64 0]):=by
 have h:=vZ (qc x) (qc y) (c_ hx) (c_ hy)
 rw [br,br,if_neg h0] at h; exact h
theorem K0 (x:Rat) (hx:sz x≤17179869184):ag Tryz.prog 292 [rA x] (rA (-x)):=by
 have h:=wb (qc x) (c_ hx).ok
 rw [br] at h; exact h
theorem jx (x:Rat) (hx:sz x≤17179869184):ag Tryz.prog 34 [rA x] (.int .i64 (aM x)):=by
 have h:=bI (qc x) (c_ hx).ok
 rw [br] at h; exact h
theorem oU (x y:Rat) (hx:sz x≤17179869184) (hy:sz y≤17179869184):ag Tryz.prog 31 [rA x,rA y] (.int .i64 (bJ x y)):=by
 have h:=fM (qc x) (qc y) (c_ hx) (c_ hy)
 rw [br,br] at h; exact h
def rC (x:Rat):List AV:=[.bool (qc x).neg,nA (qc x).p,nA (qc x).q]
theorem bA (x:Rat):rA x = .agg (rC x):=rfl
@[go_sem] theorem Sp (x:Rat):(rC x).length=3:=rfl
@[go_sem] theorem Rd (x:Rat):(rC x).take 3=rC x:=rfl
@[go_sem] theorem Rb (x:Rat):(rC x).drop 3=[]:=rfl
@[go_sem] theorem gK (x:Rat):roL (rC x):=by unfold rC; simp -implicitDefEqProofs [go_sem]
@[go_sem] theorem RZ (n:Nat) (x:Rat):cloL n (rC x):=cloL_ro _ (gK x)
@[go_sem] theorem Sv (rn:Nat→Nat) (x:Rat):renL rn (rC x)=rC x:=renL_ro rn _ (gK x)
@[go_sem] theorem QK (f:Nat→BS) (x:Rat):fitsL f (rC x):=fitsL_ro f _ (gK x)
@[go_sem] theorem RA (f:Nat→BS) (x:Rat):viewL f (rC x)=rC x:=viewL_ro f _ (gK x)
def pC (p:PQ):List AV:=[.bool (qc p.x).neg,nA (qc p.x).p,nA (qc p.x).q,.bool (qc p.y).neg,nA (qc p.y).p,nA (qc p.y).q]
theorem aQ (p:PQ):pA p = .agg (pC p):=rfl
@[go_sem] theorem Sn (p:PQ):(pC p).length=6:=rfl
@[go_sem] theorem Ra (p:PQ):(pC p).take 6=pC p:=rfl
@[go_sem] theorem Q_ (p:PQ):(pC p).drop 6=[]:=rfl
@[go_sem] theorem PV (p:PQ):(pC p).take 3=rC p.x:=rfl
@[go_sem] theorem PU (p:PQ):(pC p).drop 3=rC p.y:=rfl
@[go_sem] theorem bW (p:PQ):roL (pC p):=by unfold pC; simp -implicitDefEqProofs [go_sem]
@[go_sem] theorem RX (n:Nat) (p:PQ):cloL n (pC p):=cloL_ro _ (bW p)
@[go_sem] theorem Ss (rn:Nat→Nat) (p:PQ):renL rn (pC p)=pC p:=renL_ro rn _ (bW p)
@[go_sem] theorem QJ (f:Nat→BS) (p:PQ):fitsL f (pC p):=fitsL_ro f _ (bW p)
@[go_sem] theorem Rz (f:Nat→BS) (p:PQ):viewL f (pC p)=pC p:=viewL_ro f _ (bW p)
theorem KV (p q:PQ) (hp:p.sz≤17179869184) (hq:q.sz≤17179869184):ag Tryz.prog 97 [pA p,pA q] (pA (p.add q)):=by
 have h:=dY (pc p) (pc q) (be hp) (be hq)
 rw [aO,aO] at h; exact h
theorem xX (p:PQ) (k:Rat) (hp:p.sz≤17179869184) (hk:sz k≤17179869184):ag Tryz.prog 124 [pA p,rA k] (pA (p.scale k)):=by
 have h:=iI (pc p) (qc k) (be hp) (fL hk)
 rw [aO,br] at h; exact h
theorem Ig (p q:PQ) (t:Rat) (hp:p.sz≤1073741824) (hq:q.sz≤1073741824) (ht:sz t≤1073741824):ag Tryz.prog 55 [pA p,pA q,rA t] (pA (p.mix q t)):=by
 have h:=FO (pc p) (pc q) (qc t) (be hp) (be hq) (fL ht)
 rw [aO,aO,br] at h; exact h
theorem Ax (a b c:PQ) (ha:a.sz≤1073741824) (hb:b.sz≤1073741824) (hc:c.sz≤1073741824):ag Tryz.prog 127 [pA a,pA b,pA c] (.int .i64 (PQ.orient a b c)):=by
 have h:=xU (pc a) (pc b) (pc c) (be ha) (be hb) (be hc)
 rw [aO,aO,aO] at h; exact h
def pL (l:List PQ):AV := .sl 6 false (l.map pA)
@[go_sem] theorem bK (l:List PQ):roL (l.map pA):=dq iU
theorem iV (l:List PQ):ro (pL l):=by unfold pL; simp only [ro]; exact bK l
@[go_sem] theorem Rh (rn:Nat→Nat) (l:List PQ):renL rn (l.map pA)=l.map pA:=renL_ro rn _ (bK l)
@[go_sem] theorem QA (n:Nat) (l:List PQ):cloL n (l.map pA):=cloL_ro _ (bK l)
@[go_sem] theorem O1 (f:Nat→BS) (l:List PQ):fitsL f (l.map pA):=fitsL_ro f _ (bK l)
@[go_sem] theorem Qg (f:Nat→BS) (l:List PQ):viewL f (l.map pA)=l.map pA:=viewL_ro f _ (bK l)
theorem eV {l:List PQ} {i:Nat} (h:i<l.length):bU (l.map pA) (i:Int) = .agg (pC l[i]):=by
 simp [bU,List.getD_eq_getElem?_getD,h,aQ]
theorem CG (p:PQ) (h:p.sz≤17179869184):ag Tryz.prog 33 [pA p,pA p] (.bool true):=by
 have:=jJ p p h h
 rwa [decide_eq_true rfl] at this
mutual
def B5 (g:Nat) (l:List AV):AV→AV
 | .own sz id off len=>if id=g∧off+len≤l.length then .sl sz false ((l.drop off).take len) else .own sz id off len
 | .agg cs => .agg (frnL g l cs)
 | a=>a
def frnL (g:Nat) (l:List AV):List AV→List AV
 | []=>[]
 | a::r=>B5 g l a::frnL g l r
end
def qJ (g:Nat) (l:List AV) (j:Nat) (b:BS):BS:=if j=g then .dead else match b with
 | .live sz m => .live sz (m.map (B5 g l))
 | b=>b
theorem E0 (g:Nat) (l:List AV) (a:AV):(B5 g l a).isAgg=a.isAgg:=by
 cases a<;>try rfl
 simp only [B5]; split<;>rfl
mutual
theorem G9 {c c':Cx} {g:Nat} {l:List AV} (hown:∀sz id off len v,Rv c (.own sz id off len) v→Rv c' (B5 g l (.own sz id off len)) v) (hrest:∀x v,Rv c x v→Rv c' x v):∀(x:AV) (v:Value),Rv c x v→Rv c' (B5 g l x) v
 | .own sz id off len,v,h=>hown sz id off len v h
 | .agg cs,v,h=>by
  simp only [B5,Rv] at h ⊢
  obtain ⟨vs,h1,h2,h3⟩:=h
  exact ⟨vs,h1,h2,frn_rl hown hrest cs vs.toList h3⟩
 | .any,v,h=>hrest _ v h
 | .bool b,v,h=>hrest _ v h
 | .int k n,v,h=>hrest _ v h
 | .str s,v,h=>hrest _ v h
 | .tup cs,v,h=>hrest _ v h
 | .sl a b c,v,h=>hrest _ v h
 | .ptr a b c,v,h=>hrest _ v h
 | .rp cs,v,h=>hrest _ v h
 | .fn a b c,v,h=>hrest _ v h
 | .yld a,v,h=>hrest _ v h
 | .mp a,v,h=>hrest _ v h
 | .nilp,v,h=>hrest _ v h
theorem frn_rl {c c':Cx} {g:Nat} {l:List AV} (hown:∀sz id off len v,Rv c (.own sz id off len) v→Rv c' (B5 g l (.own sz id off len)) v) (hrest:∀x v,Rv c x v→Rv c' x v):∀(xs:List AV) (vs:List Value),Rl c xs vs→Rl c' (frnL g l xs) vs
 | [],vs,h=>h
 | a::r,vs,h=>by
  simp only [frnL,Rl] at h ⊢
  obtain ⟨v,vs',h1,h2,h3⟩:=h
  exact ⟨v,vs',h1,G9 hown hrest a v h2,frn_rl hown hrest r vs' h3⟩
end
mutual
theorem LF (g:Nat) (m:List AV):∀a:AV,ro a→B5 g m a=a
 | .own ..,h=>by simp only [ro] at h
 | .agg cs,h=>by simp only [ro] at h; simp only [B5,frnL_ro g m cs h]
 | .any,_ | .bool _,_ | .int ..,_ | .str _,_ | .tup _,_ | .sl ..,_ | .ptr ..,_ | .rp _,_ | .fn ..,_ | .yld _,_ | .mp _,_ | .nilp,_=>rfl
theorem frnL_ro (g:Nat) (m:List AV):∀l:List AV,roL l→frnL g m l=l
 | [],_=>rfl
 | a::r,h=>by simp only [roL] at h; simp only [frnL,LF g m a h.1,frnL_ro g m r h.2]
end
theorem Ce {ne:Nat} {t:Nat→AV} {f:Nat→BS} {n:Nat} (g sz:Nat) (l:List AV) (hg:f g = .live sz l) :
 le ne ⟨t,f,n⟩ ⟨fun k=>B5 g l (t k),fun j=>qJ g l j (f j),n⟩:=by
 rintro c0 N a w ⟨c,rfl,hk,hfr,ht,hN,hd,hs,h0,hnn⟩
 obtain ⟨e,he,hesz,hnr,hreal⟩:=hk.live g sz l hg
 let c':Cx:={ w:=c.w,mu:=aH c.mu g none,U:=c.U,F:=fun b=>c.F b∧(e.real=true→b≠e.block) }
 have hkr:Kr c c':=⟨Nat.le_refl _,fun b _ _ o v h=>h,fun _ h=>h,fun id _=>by
  by_cases hid:id=g
  ·right; subst hid; exact am _ _ _
  ·left; exact aq _ _ _ hid,fun b _ h=>h.1⟩
 have hmu:∀id e',c'.mu id=some e'→id≠g∧c.mu id=some e':=fun id e' h=>by
  by_cases hid:id=g
  ·subst hid; rw [show c'.mu id=none from am _ _ _] at h; cases h
  ·rw [show c'.mu id=c.mu id from aq _ _ _ hid] at h; exact ⟨hid,h⟩
 have hmu2:∀id,id≠g→c'.mu id=c.mu id:=fun id h=>aq _ _ _ h
 have hrest:∀(x:AV) (v:Value),Rv c x v→Rv c' x v:=fun x v h=>Rv.keepR hkr x v h
 have key:∀(x:AV) (v:Value),Rv c x v→Rv c' (B5 g l x) v:=G9 (fun sz' id off len v h=>by
  simp only [B5]
  split
  ·rename_i hh
   obtain ⟨rfl,hle⟩:=hh
   simp only [Rv] at h ⊢
   obtain ⟨hU,h2,ad,cap,rfl,h3,h4⟩:=h
   have hsz':sz=sz':=by rw [←hesz]; exact h2 e he
   subst hsz'
   have hlen:((l.drop off).take len).length=len:=by rw [List.length_take,List.length_drop]; omega
   refine ⟨ad,cap,by rw [hlen],by rw [hlen]; exact h3,by simp,?_⟩
   rcases h4 with h4|⟨b,o,rfl,h5⟩
   ·left; exact List.eq_nil_of_length_eq_zero (by rw [hlen]; omega)
   ·obtain ⟨hr,rfl,rfl,_⟩:=h5 e he
    right
    obtain ⟨hre,_⟩:=hreal hr
    refine ⟨_,_,rfl,hk.lt he hr,fun hF=>hF.2 hr rfl,?_⟩
    rw [hesz]
    refine Re.of_get fun i x hi=>?_
    obtain ⟨v,g1,g2⟩:=(hre.slice off len).get i x hi
    exact ⟨v,g1.keepR hkr,g2⟩
  ·exact hrest _ _ h) hrest
 have hfresh:∀j,qJ g l j (f j) = .fresh↔f j = .fresh:=fun j=>by
  unfold qJ
  split
  ·rename_i h; subst h; rw [hg]; simp
  ·cases f j<;>simp
 have hst:Stp c0 c':=by
  refine ⟨hs.os,hs.tape,hs.output,hs.size,hs.keep,hs.U,fun id h=>?_,fun id e' h hr=>hs.new id e' (hmu id e' h).2 hr,fun b hb=>⟨fun h=>(hs.F b hb).1 h.1,fun hn hF=>⟨(hs.F b hb).2 hn hF,fun hr hbe=>?_⟩⟩⟩
  ·by_cases hid:id=g
   ·subst hid; right; exact am _ _ _
   ·rw [hmu2 id hid]; exact hs.mu id h
  ·subst hbe
   rcases hs.new g e he hr with h1|⟨j,e',hj,hr',hb'⟩
   ·omega
   ·exact hn j e' hj hr' hb'
 refine ⟨c',rfl,?_,fun j=>(hfresh j).trans (hfr j),fun k=>key _ _ (ht k),hN,dT.back (c:=c) (c':=c') rfl (fun id e' h=>⟨id,(hmu id e' h).2⟩) hd,hst,h0,hnn⟩
 constructor
 ·intro id; exact (hk.used id).trans (not_congr (hfresh id)).symm
 ·intro id h
  by_cases hid:id=g
  ·subst hid; exact am _ _ _
  ·rw [hmu2 id hid]
   refine hk.none id ?_
   change qJ g l id (f id) = .fresh∨qJ g l id (f id) = .dead at h
   change f id = .fresh∨f id = .dead
   unfold qJ at h
   simp only [if_neg hid] at h
   cases hf:f id with
   | fresh=>exact .inl rfl
   | dead=>exact .inr rfl
   | live s m=>rw [hf] at h; simp at h
   | obj o t=>rw [hf] at h; simp at h
 ·intro id s m h
  change qJ g l id (f id)=_ at h
  unfold qJ at h
  split at h
  ·cases h
  ·rename_i hid
   cases hf:f id with
   | live s' m' =>
    rw [hf] at h
    simp only [BS.live.injEq] at h
    obtain ⟨rfl,rfl⟩:=h
    obtain ⟨e2,he2,h1,h2,h3⟩:=hk.live id s' m' hf
    refine ⟨e2,by rw [hmu2 id hid]; exact he2,h1,fun hr=>by rw [h2 hr]; rfl,fun hr=>?_⟩
    obtain ⟨hre,htot,cs,ty,hh,hsz⟩:=h3 hr
    refine ⟨Re.of_get fun i x hi=>?_,by simpa using htot,cs,ty,hh,hsz⟩
    rw [List.getElem?_map] at hi
    cases hx:m'[i]? with
    | none=>rw [hx] at hi; cases hi
    | some y =>
     rw [hx] at hi
     simp only [Option.map_some,Option.some.injEq] at hi
     subst hi
     obtain ⟨v,g1,g2,g3,g4,g5⟩:=hre.get i y hx
     exact ⟨v,key _ _ g1,g2,by rw [E0]; exact g3,g4,g5⟩
   | fresh=>rw [hf] at h; cases h
   | dead=>rw [hf] at h; cases h
   | obj o t=>rw [hf] at h; cases h
 ·intro id o tt h
  change qJ g l id (f id)=_ at h
  unfold qJ at h
  split at h
  ·cases h
  ·rename_i hid
   cases hf:f id with
   | obj o' t' =>
    rw [hf] at h
    simp only [BS.obj.injEq] at h
    obtain ⟨rfl,rfl⟩:=h
    obtain ⟨e2,oo,he2,h1,h2,h3,hS,h4,h5,h6⟩:=hk.obj id o' t' hf
    exact ⟨e2,oo,by rw [hmu2 id hid]; exact he2,h1,h2,h3,hS,h4,fun k=>(h5 k).keepR hkr,h6⟩
   | fresh=>rw [hf] at h; cases h
   | dead=>rw [hf] at h; cases h
   | live s m=>rw [hf] at h; cases h
 ·intro i j ei ej hi hj
  exact hk.inj i j ei ej (hmu i ei hi).2 (hmu j ej hj).2
 ·intro id e2 h hr
  obtain ⟨hid,h2⟩:=hmu id e2 h
  exact ⟨hk.shut id e2 h2 hr,fun hre hb=>hid (hk.inj id g e2 e h2 he hr hre hb)⟩
attribute [go_sem] B5 frnL qJ
theorem CA.freeze {P:Program} {g:FuncId} {args:List AV} {f:Nat→BS} {n:Nat} {K:AV→(Nat→BS)→Nat→Prop}
 (h:CA P g args f n fun r f' n'=>∃b sz l,f' b = .live sz l∧K (B5 b l r) (fun j=>qJ b l j (f' j)) n'):CA P g args f n K:=by
 refine fun c vs h1 h2 h3=>(h c vs h1 h2 h3).mono fun v w' ⟨c',r,f',n',q1,⟨b,sz,l,hb,hK⟩,q3,q4,q5,q6,q7⟩=>?_
 have hle:=Ce (ne:=n) (t:=fun k=>if k=0 then r else .any) (n:=n') b sz l hb
 have hU:∀j,c.U j→j<n:=fun j hj=>by
  rcases Nat.lt_or_ge j n with h|h
  ·exact h
  ·exact absurd ((h2 j).2 h) ((h1.used j).1 hj)
 obtain ⟨c2,k1,k2,k3,k4,k5,k6,k7,k8,k9⟩:=hle c 1 { tmps := #[v],defers:=[] } w' ⟨c',q1,q3,q7,fun k=>by
  by_cases hk:k=0
  ·subst hk; simp; exact q4
  ·simp only [if_neg hk,Rv],rfl,trivial,q5,hU,q6⟩
 have hr:=k4 0
 simp at hr
 exact ⟨c2,_,_,n',k1,hK,k2,hr,k7,q6,k3⟩
end Go.Proofs.YtdnmfaljidjijaaGreat
