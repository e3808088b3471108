import Derived.Test.YtdnmfaljidjijaaGreatPk05
import Derived.Test.YtdnmfaljidjijaaGreatPk06
import Derived.ProofKit
import Derived.Carry
namespace Go.Proofs.YtdnmfaljidjijaaGreat
open Go Go.Proofs
open Go.ChangeShapes Go.WideShapes Go.ChangeAt Go.RowKit
set_option linter.unusedSimpArgs false
set_option linter.unusedVariables false
theorem yb {cx:Cx} {a a':AV} {v v':Value} (h:Rl cx [a] [v]) (h':Rl cx [a'] [v']):Rl cx [a,a'] [v,v']:=h.append h'
theorem JL {H:Type} {enc:TypeId×Value→H} {g:FuncId} {fn:Func} {c:Code} {s:ChangeSpec} {t t':TypeId} {l:List AV} {W:World} {v0 v1:Value} {d0 d1:DataW H} {p0 p1:List MemPlace}
 (hf:Tryz.prog.funcs[g]?=some fn) (hb:fn.body=some c) (hname:(fn.name == "runtime.NumGoroutine")=false) (hpar:fn.params = #[t,t']) (hres:fn.resultTypes = #[4]) (hvars:s.vars=[])
 (hfun:∀d d':DataW H,s.fn H [d,d']={ results:=[.lit (.bool true)],args:=[d,d'] })
 (hrd:(Tryz.prog.readableRec t && Tryz.prog.readableRec t')=true) (hsz:t<Tryz.prog.types.size∧t'<Tryz.prog.types.size)
 (hp:ag Tryz.prog g l (.bool true)) (hrl:∀cx:Cx,cx.w=W→(∀b,¬cx.F b)→Rl cx l [v0,v1])
 (h0:DataW.Trod enc Tryz.prog W 0 (fun _=>true) true t v0 d0 p0) (h1:DataW.Trod enc Tryz.prog W 0 (fun _=>true) true t' v1 d1 p1) (hW:DataW.Whole enc Tryz.prog fn.params.toList s.vars false W [v0,v1] [d0,d1] [] (p0++p1)) :
 Calls Tryz.prog g #[v0,v1] W fun e W'=>∃v,e = .returned v∧s.post enc Tryz.prog fn false true false false W #[v0,v1] v W':=by
 refine (ag.calls hf hb hname hp (vs:=[v0,v1]) hrl).mono fun e W' ⟨v,he,hB,cx,hw,hr⟩=>?_
 subst he
 simp only [Rv] at hr
 subst hr
 simp only [Bool.and_eq_true] at hrd
 have hlt:∀x∈p0++p1,x.block<W.heap.size:=fun x hx=>by simpa using hW.lt x hx
 refine ⟨_,rfl,[d0,d1],[],p0++p1,[],p0++p1,[],hW,?_,?_,?_,hB.frame _,fun h=>by cases h⟩
 ·rw [hres,List.append_nil,hfun]
  exact trodAll_mk1 (shut_bool Tryz.underBool true)
 ·rw [hpar,List.append_nil,hfun]
  exact trodAll_mk2 (Below.trod Tryz.laidOut hrd.1 hsz.1 h0 hB fun x hx=>hlt x (List.mem_append_left _ hx)) (Below.trod Tryz.laidOut hrd.2 hsz.2 h1 hB fun x hx=>hlt x (List.mem_append_right _ hx))
 ·rw [hvars,List.append_nil,hfun]; rfl
end Go.Proofs.YtdnmfaljidjijaaGreat
