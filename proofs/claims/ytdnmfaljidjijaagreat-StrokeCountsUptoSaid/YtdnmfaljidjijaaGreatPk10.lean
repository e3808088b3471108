import Derived.Test.YtdnmfaljidjijaaGreatPk05
import Derived.Test.YtdnmfaljidjijaaGreatPk06
import Derived.Test.YtdnmfaljidjijaaGreatPk08
namespace Go.Proofs.YtdnmfaljidjijaaGreat
open Go Go.Proofs
set_option linter.unusedSimpArgs false
set_option linter.unusedVariables false
set_option maxRecDepth 20000
theorem mJ (a:List Nat) (ha:cg a):ag Tryz.prog 222 [nA a,nA a] (.bool true):=by
 unfold cg at ha
 refine Pg Tryz.func222 rfl [.tmp 4] rfl (by simp -implicitDefEqProofs [go_sem]) ?_
 simp -implicitDefEqProofs [go_sem]
 refine ap 9 (α:={i:Nat // i≤a.length}) (fun i=>[(0,nA a),(1,nA a),(5,.int .i64 i.1)]) (fun i=>[]) (fun i=>a.length-i.1) ⟨0,by omega⟩ [] (by simp) (by simp) (by simp) (by simp -implicitDefEqProofs [go_sem]) (by simp -implicitDefEqProofs [go_sem]) fun ⟨i,hi⟩=>?_
 simp -implicitDefEqProofs [go_sem]
 intro h
 have hg:=bw .u64 (l:=a) (i:=i) h
 have es:=wS i (by omega)
 simp -implicitDefEqProofs [go_sem,hg,es]
 exact ⟨h,ae ⟨i+1,by omega⟩ (by simp only; omega) [] (by simp) (by simp) (by simp) (by simp -implicitDefEqProofs [go_sem]) (by simp -implicitDefEqProofs [go_sem])⟩
theorem Fm (x:Int) (h:nl x.natAbs<1099511627776):ag Tryz.prog 221 [zA x,zA x] (.bool true):=by
 have hn:=mJ (ax 18446744073709551616 x.natAbs) h
 refine Pg Tryz.func221 rfl [.tmp 4] rfl (by simp -implicitDefEqProofs [go_sem]) ?_
 unfold zA ZR.av zc
 simp -implicitDefEqProofs [go_sem]
 refine ac hn ?_
 simp -implicitDefEqProofs [go_sem]
theorem vY (x:Rat) (h:sz x<1099511627776):ag Tryz.prog 157 [rA x,rA x] (.bool true):=by
 have h1:=Fm x.num (Nat.lt_of_le_of_lt (bX x) h)
 have h2:=mJ (ax 18446744073709551616 x.den) (Nat.lt_of_le_of_lt (cf x) h)
 refine Pg Tryz.func157 rfl [.tmp 4] rfl (by simp -implicitDefEqProofs [go_sem]) ?_
 unfold rA RQ.av qc zA ZR.av zc at *
 simp only at *
 simp -implicitDefEqProofs [go_sem]
 refine ac h1 ?_
 simp -implicitDefEqProofs [go_sem]
 refine ac h2 ?_
 simp -implicitDefEqProofs [go_sem]
theorem tH (p:PQ) (h:p.sz<1099511627776):ag Tryz.prog 80 [pA p,pA p] (.bool true):=by
 have:=p.sz_x; have:=p.sz_y
 have h1:=vY p.x (by omega)
 have h2:=vY p.y (by omega)
 refine Pg Tryz.func80 rfl [.tmp 4] rfl (by simp -implicitDefEqProofs [go_sem]) ?_
 rw [aQ]
 rw [bA] at h1 h2
 simp -implicitDefEqProofs [go_sem]
 refine ac h1 ?_
 simp -implicitDefEqProofs [go_sem]
 refine ac h2 ?_
 simp -implicitDefEqProofs [go_sem]
theorem Ck (l:List PQ) (hl:l.length<1099511627776) (hs:∀p∈l,p.sz<1099511627776):ag Tryz.prog 45 [pL l,pL l] (.bool true):=by
 refine Pg Tryz.func45 rfl [.tmp 4] rfl (by simp -implicitDefEqProofs [go_sem]) ?_
 unfold pL
 simp -implicitDefEqProofs [go_sem]
 refine ap 9 (α:={i:Nat // i≤l.length}) (fun i=>[(0,pL l),(1,pL l),(5,.int .i64 i.1)]) (fun i=>[]) (fun i=>l.length-i.1) ⟨0,by omega⟩ [] (by simp) (by simp) (by simp) (by simp -implicitDefEqProofs [go_sem,pL]) (by simp -implicitDefEqProofs [go_sem]) fun ⟨i,hi⟩=>?_
 simp -implicitDefEqProofs [go_sem,pL]
 intro h
 have hg:=eV h
 have es:=wS i (by omega)
 have hp:=tH l[i] (hs _ (List.getElem_mem _))
 rw [aQ] at hp
 simp -implicitDefEqProofs [go_sem,hg]
 refine ⟨h,aa hp ?_⟩
 simp -implicitDefEqProofs [go_sem,es]
 exact ae ⟨i+1,by omega⟩ (by simp only; omega) [] (by simp) (by simp) (by simp) (by simp -implicitDefEqProofs [go_sem,pL]) (by simp -implicitDefEqProofs [go_sem])
set_option maxHeartbeats 4000000 in
theorem qh (L:List (List PQ)) (hl:L.length<1099511627776) (hs:∀x∈L,x.length<1099511627776∧∀p∈x,p.sz<1099511627776):ag Tryz.prog 43 [.sl 1 false (L.map pL),.sl 1 false (L.map pL)] (.bool true):=by
 have hVl:(L.map pL).length=L.length:=by simp
 have hVg:∀i (h:i<L.length),bU (L.map pL) (i:Int) = .sl 6 false (L[i].map pA):=fun i h=>dM h
 have hVr:=ma L
 refine Pg Tryz.func43 rfl [.tmp 4] rfl (by simp -implicitDefEqProofs [go_sem]) ?_
 generalize L.map pL=V at *
 simp -implicitDefEqProofs [go_sem,hVl]
 refine ap 0 (α:={i:Nat // i≤L.length}) (fun i=>[(0,.sl 1 false V),(1,.sl 1 false V),(5,.int .i64 i.1)]) (fun _=>[]) (fun i=>L.length-i.1) ⟨0,Nat.zero_le _⟩ [] (by simp) (by simp [nm]) (by simp) (by simp -implicitDefEqProofs [go_sem,renL_ro (nm []) _ hVr,cloL_ro (n:=0) _ hVr]) (by simp -implicitDefEqProofs [go_sem]) fun ⟨i,hi⟩=>?_
 by_cases a:i<L.length
 ·have a1:(i:Int)<L.length:=by omega
  have es:=wS i (by omega)
  have gi:=hVg i a
  have kl:=Ck L[i] (hs _ (List.getElem_mem a)).1 (hs _ (List.getElem_mem a)).2
  have hxr:=bK L[i]
  unfold pL at kl
  generalize L[i].map pA=xA at *
  simp -implicitDefEqProofs [go_sem,a,a1,hVl,gi]
  refine ao _ kl (by simp [go_sem,hxr]) ?_
  simp -implicitDefEqProofs [go_sem,es]
  exact ae ⟨i+1,by omega⟩ (by simp only; omega) [] (by simp) (by simp [nm]) (by simp) (by simp -implicitDefEqProofs [go_sem,renL_ro (nm []) _ hVr,cloL_ro (n:=0) _ hVr]) (by simp -implicitDefEqProofs [go_sem])
 ·have a1:¬(i:Int)<L.length:=by omega
  simp -implicitDefEqProofs [go_sem,a1,hVl]
end Go.Proofs.YtdnmfaljidjijaaGreat
