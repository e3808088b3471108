import Derived.Test.YtdnmfaljidjijaaGreatPk05
import Derived.Test.YtdnmfaljidjijaaGreatRows
namespace Go.Proofs.YtdnmfaljidjijaaGreat
open Go
set_option linter.unusedSimpArgs false
set_option linter.unusedVariables false
section
variable {P:Program} {z:Bool} {ne:Nat} {Q:AEx→St→Prop} {k:List Itm} {t:Nat→AV} {f:Nat→BS} {n:Nat}
section ops
variable {y q:Bool} {O:Array Oper} {n0 i:Nat} {r:List Oper} {d:Option Tmp} {ty:TypeId} {pos:String} {after:Array Edge}
end ops
theorem Hf {g:FuncId} {args args':List AV} {d:Option Tmp} (r:AV) (hp:ag P g args' r) (hv:viewL f args=args') (hro:roL args') (hfit:fitsL f args) (hor:roL args∨flat r) (h:go P z ne Q k (aX t d r) f n):Bo P z ne Q g args d k t f n:=CA.of_pure hp hv hro hfit hor h
end
section
variable {P:Program} {rs:List ResultVar} {r:AV} {t:Nat→AV} {f f0:Nat→BS} {n n0:Nat} {K:AV→(Nat→BS)→Nat→Prop}
end
section
variable {P:Program} {z:Bool} {ne:Nat} {Q:AEx→St→Prop} {k:List Itm} {t:Nat→AV} {f:Nat→BS} {n:Nat}
end
open Go Go.Proofs
set_option maxRecDepth 20000
theorem jo {α:Type} (l:List α):(iF l).length=l.length:=by
 cases l<;>simp [iF]
theorem sS {α:Type} (l:List α) (i:Nat) (hi:i<(iF l).length):(iF l)[i]=l[(l.length-i)%l.length]'(Nat.mod_lt _ (by rw [jo] at hi; omega)):=by
 cases l with
 | nil=>simp [iF] at hi
 | cons a r =>
  cases i with
  | zero=>simp [iF]
  | succ j =>
   have hj:j<r.length:=by rw [jo] at hi; simp at hi; omega
   have e:(r.length+1-(j+1))%(r.length+1)=(r.length-1-j)+1:=by rw [Nat.mod_eq_of_lt (by omega)]; omega
   simp only [iF,List.getElem_cons_succ,List.getElem_reverse,List.length_cons,e]
theorem Gy {m:MR} {p:PQ} {n k:Nat} (hm:m.In n) (hn:1≤n) (hp:p.sz≤k):(m.val.app p).sz≤3*n+2*k+2:=by
 have zx:m.x.val.sz≤n:=PR.In.sz ⟨hm.a,hm.b⟩
 have zy:m.y.val.sz≤n:=PR.In.sz ⟨hm.c,hm.d⟩
 have zs:m.s.val.sz≤n:=PR.In.sz ⟨hm.e,hm.f⟩
 have z1:=PQ.sz_scale m.x.val p.x
 have z2:=PQ.sz_scale m.y.val p.y
 have z3:=PQ.sz_add (m.x.val.scale p.x) (m.y.val.scale p.y)
 have z4:=PQ.sz_add ((m.x.val.scale p.x).add (m.y.val.scale p.y)) m.s.val
 have y1:=p.sz_x
 have y2:=p.sz_y
 rw [De] at z4
 omega
theorem kz (m:MQ) (l:List PQ):(cW m l).length=l.length:=by
 unfold cW
 split
 ·rw [jo,List.length_map]
 ·rw [List.length_map]
theorem Ah (m:MQ) (l:List PQ) (k:Nat) (hk:k<l.length):(cW m l)[k]'(by rw [kz]; exact hk)=m.app (l[if m.det<0∧0<k then l.length-k else k]'(by split<;>omega)):=by
 unfold cW
 by_cases hd:m.det<0
 ·simp only [hd,if_true,true_and]
  rw [sS]
  simp only [List.length_map,List.getElem_map]
  congr 1
  by_cases h0:0<k
  ·have e:(l.length-k)%l.length=l.length-k:=Nat.mod_eq_of_lt (by omega)
   simp only [h0,if_true,e]
  ·have e0:k=0:=by omega
   subst e0
   have e:(l.length-0)%l.length=0:=by rw [Nat.sub_zero,Nat.mod_self]
   simp only [Nat.lt_irrefl,if_false,e]
 ·simp only [hd,if_false,false_and,List.getElem_map]
open Go.ChangeShapes Go.WideShapes Go.ChangeAt Go.RowKit
section
variable {H:Type} {enc:TypeId×Value→H} {P:Program} {w:World}
end
section
variable {H:Type} {enc:TypeId×Value→H} {w:World}
theorem DZ:oe enc Tryz.prog w 29 fun l=>∃m:MR,m.Lm∧l=m.cs :=
 (Ic [(27,3,x8),(27,3,x8),(27,3,x8),(27,3,x8),(27,3,x8),(27,3,x8)] (by kernel_rfl) (by kernel_rfl) (by kernel_rfl) (fun f hf=>by
  simp only [List.mem_cons,List.not_mem_nil,or_false,or_self] at hf
  subst hf; exact mL)).mono fun l ⟨a,_,e1,⟨x,hx,h1⟩,b,_,e2,⟨y,hy,h2⟩,c,_,e3,⟨z,hz,h3⟩,d,_,e4,⟨u,hu,h4⟩,g,_,e5,⟨v,hv,h5⟩,i,_,e6,⟨o,ho,h6⟩,e7⟩=>⟨⟨x,y,z,u,v,o⟩,⟨hx,hy,hz,hu,hv,ho⟩,by rw [e1,e2,e3,e4,e5,e6,e7,h1,h2,h3,h4,h5,h6]; rfl⟩
end
theorem tq (m:MR) (hm:m.Lm):∃b:Bool,ag Tryz.prog 46 [m.av] (.bool b)∧(b=true→m.In 6):=by
 obtain ⟨b,hb⟩:∃b,b=decide (∀p∈[m.x,m.y,m.s],p.x.sml 6∧p.y.sml 6):=⟨_,rfl⟩
 refine ⟨b,?_,fun h=>?_⟩
 ·have k:=jy [m.x,m.y,m.s] 6 (by simp)
  rw [←hb] at k
  have k2:ag Tryz.prog 116 [.sl 6 false [m.x.av,m.y.av,m.s.av]] (.bool b):=by
   refine Pg Tryz.func116 rfl [.tmp 2] rfl (by simp -implicitDefEqProofs [go_sem]) ?_
   have r1:=ju m.x
   have r2:=ju m.y
   have r3:=ju m.s
   change ag _ _ [.sl 6 false [m.x.av,m.y.av,m.s.av],.int .i64 6] _ at k
   generalize m.x.av=X at *
   generalize m.y.av=Y at *
   generalize m.s.av=Z at *
   simp -implicitDefEqProofs [go_sem]
   refine ah _ k (by simp [go_sem,r1,r2,r3]) ?_
   simp -implicitDefEqProofs [go_sem]
  refine Pg Tryz.func46 rfl [.tmp 2] rfl (by simp -implicitDefEqProofs [go_sem]) ?_
  change ag _ _ [.sl 6 false [.agg m.x.cs,.agg m.y.cs,.agg m.s.cs]] _ at k2
  unfold PR.cs MR.x MR.y MR.s at k2
  unfold MR.av MR.cs
  simp -implicitDefEqProofs [go_sem]
  refine Hf _ k2 (by simp -implicitDefEqProofs [go_sem]) (by simp -implicitDefEqProofs [go_sem]) (by simp -implicitDefEqProofs [go_sem]) (.inr (by simp only [flat])) ?_
  simp -implicitDefEqProofs [go_sem]
 ·rw [hb] at h
  have h:=of_decide_eq_true h
  have h1:=h m.x (by simp)
  have h2:=h m.y (by simp)
  have h3:=h m.s (by simp)
  exact ⟨bL h1.1 hm.a,bL h1.2 hm.b,bL h2.1 hm.c,bL h2.2 hm.d,bL h3.1 hm.e,bL h3.2 hm.f⟩
theorem Ai {m:MQ} {l:List PQ} {p:PQ} (h:p∈cW m l):∃q∈l,m.app q=p:=by
 obtain ⟨k,hk,rfl⟩:=List.mem_iff_getElem.1 h
 rw [kz] at hk
 rw [Ah m l k hk]
 exact ⟨_,List.getElem_mem _,rfl⟩
end Go.Proofs.YtdnmfaljidjijaaGreat
