import Derived.Test.YtdnmfaljidjijaaGreatPk00
import Derived.Below
namespace Go.Proofs.YtdnmfaljidjijaaGreat
open Go
set_option linter.unusedSimpArgs false
set_option linter.unusedVariables false
structure St where
 t:Nat→AV
 f:Nat→BS
 n:Nat
def cg (c:Cx) (lo:Nat):List Deferred→Prop
 | []=>True
 | d::ds=>(∃D,d={ target := .collected D,args := #[] }∧lo≤D∧c.w.heap[D]?=some (.deferred (some []))∧∀id e,c.mu id=some e→e.real=true→e.block≠D)∧d ∉ ds∧cg c lo ds
theorem cg.keep {c c':Cx} (hs:Stp c c') {lo:Nat}:∀ {ds:List Deferred},cg c lo ds→cg c' lo ds
 | [],_=>trivial
 | d::ds,⟨⟨D,h1,h2,h3,h4⟩,h5,h6⟩=>by
  have hlt:D<c.w.heap.size:=(Array.getElem?_eq_some_iff.1 h3).1
  refine ⟨⟨D,h1,h2,by rw [hs.keep D hlt h4]; exact h3,fun id e he hr hb=>?_⟩,h5,h6.keep hs⟩
  rcases hs.new id e he hr with h7|⟨j,e',hj,hr',hb'⟩
  ·omega
  ·exact h4 j e' hj hr' (hb'.trans hb)
theorem cg.back {c c':Cx} (hw:c'.w=c.w) (hm:∀id e,c'.mu id=some e→∃id',c.mu id'=some e) {lo:Nat}:∀ {ds:List Deferred},cg c lo ds→cg c' lo ds
 | [],_=>trivial
 | d::ds,⟨⟨D,h1,h2,h3,h4⟩,h5,h6⟩ =>
  ⟨⟨D,h1,h2,by rw [hw]; exact h3,fun id e he hr=>by obtain ⟨id',h7⟩:=hm id e he; exact h4 id' e h7 hr⟩,h5,h6.back hw hm⟩
def nJ (c0:Cx) (ne N:Nat) (s:St) (a:Act) (w:World):Prop :=
 ∃c:Cx,c.w=w∧HOk c s.f∧(∀j,s.f j = .fresh↔s.n≤j)∧(∀k,Rv c (s.t k) (a.tmps.getD k undef))∧a.tmps.size=N∧cg c c0.w.heap.size a.defers∧Stp c0 c∧(∀j,c0.U j→j<ne)∧ne≤s.n
def le (ne:Nat) (s s0:St):Prop:=∀c0 N a w,nJ c0 ne N s a w→nJ c0 ne N s0 a w
def ay (t:Nat→AV) (dst:Option Tmp) (v:AV):Nat→AV :=
 match dst with
 | some d=>ap t d v
 | none=>t
def dm (ops:Array Oper) (j:Nat):Option Tmp:=(ops[j]?).bind (·.dst)
def ll (b:BS):BS:=match b with
 | .fresh => .dead
 | b=>b
def dB (n:Nat) (f:Nat→BS):Nat→BS:=fun j=>if j<n then ll (f j) else f j
theorem BK {b:BS} (h:b ≠ .fresh):ll b=b:=by cases b<;>first|rfl|exact absurd rfl h
theorem BF {n:Nat} {f:Nat→BS} {id sz:Nat} {l:List AV} (h:dB n f id = .live sz l):f id = .live sz l:=by
 unfold dB at h; split at h
 ·cases hf:f id<;>rw [hf] at h<;>simp [ll] at h ⊢; exact h
 ·exact h
theorem D6 {n:Nat} {f:Nat→BS} {id:Nat} {o:Obj} {t:Nat→AV} (h:dB n f id = .obj o t):f id = .obj o t:=by
 unfold dB at h; split at h
 ·cases hf:f id<;>rw [hf] at h<;>simp [ll] at h ⊢; exact h
 ·exact h
theorem gR {n:Nat} {f:Nat→BS} (hfr:∀j,n≤j→f j = .fresh) (j:Nat):dB n f j = .fresh↔n≤j:=by
 unfold dB
 by_cases h:j<n
 ·rw [if_pos h]
  constructor
  ·intro hf; cases hj:f j<;>rw [hj] at hf<;>simp [ll] at hf
  ·intro; omega
 ·rw [if_neg h]; exact ⟨fun _=>by omega,fun h=>hfr j h⟩
def Cx.past (c:Cx) (n:Nat):Cx:={ c with U:=fun j=>c.U j∨j<n }
theorem Stp.past (c:Cx) (n:Nat):Stp c (c.past n) :=
 ⟨rfl,rfl,rfl,Nat.le_refl _,fun _ _ _=>rfl,fun _ h => .inl h,fun _ _ => .inl rfl,fun id e h hr => .inr ⟨id,e,h,hr,rfl⟩,fun _ _=>⟨fun h=>h,fun _ h=>h⟩⟩
theorem HOk.past {c:Cx} {f:Nat→BS} (hk:HOk c f) {n:Nat} (hfr:∀j,n≤j→f j = .fresh):HOk (c.past n) (dB n f):=by
 constructor
 ·intro id
  have:=(gR hfr id).trans (Nat.not_lt (a:=id) (b:=n)).symm
  constructor
  ·rintro (h|h) hf
   ·have h1:=this.1 hf
    exact (hk.used id).1 h (hfr id (by omega))
   ·exact this.1 hf h
  ·intro h
   right
   rcases Nat.lt_or_ge id n with h1|h1
   ·exact h1
   ·exact absurd (this.2 (by omega)) h
 ·intro id h
  refine hk.none id ?_
  unfold dB at h
  split at h
  ·cases hf:f id<;>rw [hf] at h<;>simp [ll] at h ⊢
  ·exact h
 ·intro id sz l h
  obtain ⟨e,he,h1,h2,h3⟩:=hk.live id sz l (BF h)
  refine ⟨e,he,h1,h2,fun hr=>?_⟩
  obtain ⟨hre,rest⟩:=h3 hr
  refine ⟨Re.of_get fun i a hi=>?_,rest⟩
  obtain ⟨v,g1,g2⟩:=hre.get i a hi
  exact ⟨v,g1.keep (Stp.past c n) hk.shut,g2⟩
 ·intro id o t h
  obtain ⟨e,oo,h1,h2,h3,h4,hS,h5,h6,h7⟩:=hk.obj id o t (D6 h)
  exact ⟨e,oo,h1,h2,h3,h4,hS,h5,fun k=>(h6 k).keep (Stp.past c n) hk.shut,h7⟩
 ·exact hk.inj
 ·exact hk.shut
def nK (q:Bool) (n0 i n:Nat):Nat:=bif q then n0+i else n
def Lu (acc:List Nat) (o:Oper):Nat:=o.after.toList.foldl (fun s e=>if Region.binds .any e then s ||| (2 ^ e.on ||| acc.getD e.on 0) else s) 0
def sW (acc:List Nat):List Oper→List Nat
 | []=>acc
 | o::r=>sW (acc++[Lu acc o]) r
def cK (ops:Array Oper) (i:Nat):Bool:=(List.range ops.size).all fun j=>j == i || (((sW [] ops.toList).getD i 0).testBit j || ((sW [] ops.toList).getD j 0).testBit i)
def gB (op:Op):Bool:=match aE op with
 | .g=>true
 | _=>false
def Cc (ops:Array Oper) (i k:Nat):Bool:=decide (k<i) && ((match ops[k]? with
 | some o=>gB o.op
 | none=>false) && !((sW [] ops.toList).getD i 0).testBit k)
def dR (z q:Bool) (ops:Array Oper) (n0 i:Nat):Nat→Bool:=fun m=>q && (decide (n0≤m) && (z || Cc ops i (m-n0)))
theorem HD (z:Bool) (ops:Array Oper) (n0 i:Nat) (f:Nat→BS):fz (dR z false ops n0 i) f=f:=by funext m; simp [fz,dR]
theorem HE (ops:Array Oper) (n0 i:Nat) (f:Nat→BS) (m:Nat):fz (dR false true ops n0 i) f m=if n0≤m then (bif Cc ops i (m-n0) then .dead else f m) else f m:=by
 unfold fz dR
 by_cases h:n0≤m<;>simp [h]
theorem HF (ops:Array Oper) (n0 i:Nat) (f:Nat→BS) (m:Nat):fz (dR true true ops n0 i) f m=if n0≤m then .dead else f m:=by
 unfold fz dR
 by_cases h:n0≤m<;>simp [h]
def LK (ops:Array Oper) (n0 i:Nat) (f f':Nat→BS):Prop:=∀m,dR true true ops n0 i m=false→f' m=f m
theorem DR (ops:Array Oper) (n0 i:Nat) (f:Nat→BS) {id:Nat} {b:BS} (h:n0≤id):LK ops n0 i f (ap f id b)=True:=by
 refine eq_true fun m hm=>af _ _ _ fun he=>?_
 subst he
 simp [dR,h] at hm
def cJ (P : Program) (z q : Bool) (ops : Array Oper) (n0 : Nat) (K : St → Prop) : Nat → List Oper → (Nat → AV) → (Nat → BS) → Nat → Prop
  | _, [], t, f, n => K ⟨t, bif q then dB n f else f, n⟩
  | i, o :: rest, t, f, n =>
    match o.guard with
    | none => fo P z q (cK ops i) (dR z q ops n0 i) (nK q n0 i n) n o.op (aS t) f (fun v f' n' => cJ P z q ops n0 K (i + 1) rest (ay t o.dst v) f' n')
    | some (j, want) =>
      match dm ops j with
      | some d => match t d with
        | .bool b => (b = want → fo P z q (cK ops i) (dR z q ops n0 i) (nK q n0 i n) n o.op (aS (ap t d (.bool want))) f (fun v f' n' => cJ P z q ops n0 K (i + 1) rest (ay (ap t d (.bool want)) o.dst v) f' n')) ∧
            (b = !want → cJ P z q ops n0 K (i + 1) rest (ay (ap t d (.bool (!want))) o.dst (.tup [])) f n)
        | .tup [] => cJ P z q ops n0 K (i + 1) rest (ay t o.dst (.tup [])) f n
        | _ => False
      | none => False
theorem fM {α:Type} (t:Nat→α) (d:Nat) {v:α} (h:t d=v):ap t d v=t:=by
 funext k; unfold ap; split
 ·rename_i hk; rw [hk,h]
 ·rfl
theorem i8 {c:Cx} {t:Nat→AV} {a:Act} (h:∀k,Rv c (t k) (a.tmps.getD k undef)):∀x,Rv c (aS t x) (a.eval x):=by
 intro x
 cases x with
 | tmp n=>exact h n
 | const v=>exact lH c v
 | global g=>simp only [aS,Rv]
 | func g=>simp only [aS,Rv]; exact ⟨#[],#[],rfl,by simp [Rl],by simp [Rl]⟩
theorem dS {c:Cx} {t:Nat→AV} {a:Act} (h:∀k,Rv c (t k) (a.tmps.getD k undef)) {dst:Option Tmp} (hd:∀d,dst=some d→d<a.tmps.size) {v:AV} {r:Value} (hr:Rv c v r):∀k,Rv c (ay t dst v k) ((a.put dst r).tmps.getD k undef):=by
 intro k
 cases dst with
 | none=>exact h k
 | some d =>
  have hlt:=hd d rfl
  simp only [ay,Act.put,ap]
  by_cases hk:k=d
  ·subst hk
   rw [if_pos rfl]
   simp [Array.getElem?_setIfInBounds,hlt,hr]
  ·rw [if_neg hk]
   have:=h k
   simpa [Array.getElem?_setIfInBounds_ne (Ne.symm hk)] using this
theorem bX {a:Act} {dst:Option Tmp} {v:Value}:(a.put dst v).tmps.size=a.tmps.size:=by
 cases dst<;>simp [Act.put]
theorem bg {a:Act} {dst:Option Tmp} {v:Value}:(a.put dst v).defers=a.defers:=by
 cases dst<;>simp [Act.put]
theorem gt {ops:Array Oper} {j d:Nat} {b:Bool} {c:Cx} {t:Nat→AV} {a:Act} (h:∀k,Rv c (t k) (a.tmps.getD k undef)) (hg:dm ops j=some d) (ht:t d = .bool b):yielded ops a.tmps j=some b:=by
 unfold dm at hg
 unfold yielded
 rw [hg]
 have:=h d
 rw [ht] at this
 simp only [Rv] at this
 simp only [Option.bind_some]
 cases hd:a.tmps[d]? with
 | none =>
  rw [Array.getD_eq_getD_getElem?,hd] at this
  simp [undef] at this
 | some v =>
  rw [Array.getD_eq_getD_getElem?,hd] at this
  simp only [Option.getD_some] at this
  subst this; rfl
theorem dN (c:Cx):Rv c (.tup []) undef:=by simp only [Rv,Rl]; exact ⟨#[],rfl,rfl⟩
theorem eZ {ops:Array Oper} {j d:Nat} {c:Cx} {t:Nat→AV} {a:Act} (h:∀k,Rv c (t k) (a.tmps.getD k undef)) (hg:dm ops j=some d) (ht:t d = .tup []):yielded ops a.tmps j=none:=by
 unfold dm at hg
 unfold yielded
 rw [hg]
 have:=h d
 rw [ht] at this
 simp only [Rv,Rl] at this
 obtain ⟨vs,h1,h2⟩:=this
 simp only [Option.bind_some]
 cases hd:a.tmps[d]? with
 | none=>rfl
 | some v =>
  rw [Array.getD_eq_getD_getElem?,hd] at h1
  simp only [Option.getD_some] at h1
  subst h1; rfl
section
variable {rr:Option Nat} {P:Program} {ops:Array Oper} {Q:Exit→Act→World→Prop} {o:Oper} {rest:List Oper} {a:Act} {w:World}
theorem sN (hw:Region.wanted o (yielded ops a.tmps)=true) (h:o.wpIn (Fr rr) 0 P a w (wpListIn (Fr rr) 0 P ops Q rest) Q):wpListIn (Fr rr) 0 P ops Q (o::rest) a w:=by
 unfold wpListIn; rw [if_pos hw]; exact h
theorem sM (hw:Region.wanted o (yielded ops a.tmps)=false) (h:wpListIn (Fr rr) 0 P ops Q rest (a.put o.dst undef) w):wpListIn (Fr rr) 0 P ops Q (o::rest) a w:=by
 unfold wpListIn; rw [if_neg (by simp [hw])]; exact ⟨fun _ _=>trivial,h⟩
end
theorem sU {P:Program} {z:Bool} {rr:Option Nat} {ops:Array Oper} {n0 ne N:Nat} {c0:Cx} {K:St→Prop} {Q:Exit→Act→World→Prop} (hQ:∀s a w,K s→nJ c0 ne N s a w→Q .normal a w) :
 ∀(l:List Oper) (i:Nat) (t:Nat→AV) (f:Nat→BS) (n:Nat) (a:Act) (c:Cx),cJ P z false ops n0 K i l t f n→(∀o∈l,∀d,o.dst=some d→d<N)→HOk c f→(∀j,f j = .fresh↔n≤j) →
  (∀k,Rv c (t k) (a.tmps.getD k undef))→a.tmps.size=N→cg c c0.w.heap.size a.defers→Stp c0 c→(∀j,c0.U j→j<ne)→ne≤n→wpListIn (Fr rr) 0 P ops Q l a c.w:=by
 intro l
 induction l with
 | nil =>
  intro i t f n a c h _ hk hfr ht hN hd hs h0 hne
  exact wpListIn_nil (hQ ⟨t,f,n⟩ a c.w h ⟨c,rfl,hk,hfr,ht,hN,hd,hs,h0,hne⟩)
 | cons o rest ih =>
  intro i t f n a c h hdst hk hfr ht hN hd hs h0 hne
  have hds:∀d,o.dst=some d→d<a.tmps.size:=fun d h=>by rw [hN]; exact hdst o (by simp) d h
  have step:∀t',(∀k,Rv c (t' k) (a.tmps.getD k undef))→fo P z false (cK ops i) (dR z false ops n0 i) (nK false n0 i n) n o.op (aS t') f (fun v f' n'=>cJ P z false ops n0 K (i+1) rest (ay t' o.dst v) f' n')→o.wpIn (Fr rr) 0 P a c.w (wpListIn (Fr rr) 0 P ops Q rest) Q:=by
   intro t' ht' hop
   refine iy hop hk (fun j hj=>(hfr j).2 hj) ((hfr n).2 (Nat.le_refl _)) (fun _=>⟨rfl,hfr⟩) (fun h=>by cases h) (i8 ht') fun v c' r f' n' hK hk' hs' hr' hn' _ hnew=>?_
   exact ih (i+1) _ f' n' _ c' hK (fun o ho=>hdst o (by simp [ho])) hk' (hnew rfl) (dS (fun k=>(ht' k).keep hs' hk.shut) hds hr') (by rw [bX]; exact hN) (by rw [bg]; exact hd.keep hs') (hs.trans hs') h0 (by omega)
  simp only [cJ] at h
  split at h
  ·rename_i hg
   exact sN (by simp [Region.wanted,hg]) (step t ht h)
  ·rename_i j want hg
   split at h
   ·rename_i d hgs
    split at h
    ·rename_i b htd
     have hy:=gt ht hgs htd
     obtain ⟨h1,h2⟩:=h
     by_cases hb:b=want
     ·have hu:=fM t d (v := .bool want) (by rw [htd,hb])
      rw [hu] at h1
      exact sN (by simp [Region.wanted,hg,hy,hb]) (step t ht (h1 hb))
     ·have hb':b = !want:=by cases b<;>cases want<;>simp_all
      have hu:=fM t d (v := .bool (!want)) (by rw [htd,hb'])
      rw [hu] at h2
      exact sM (by simp [Region.wanted,hg,hy,hb]) (ih (i+1) _ f n _ c (h2 hb') (fun o ho=>hdst o (by simp [ho])) hk hfr (dS ht hds (dN c)) (by rw [bX]; exact hN) (by rw [bg]; exact hd) hs h0 hne)
    ·rename_i htd
     have hy:=eZ ht hgs htd
     exact sM (by simp [Region.wanted,hg,hy]) (ih (i+1) _ f n _ c h (fun o ho=>hdst o (by simp [ho])) hk hfr (dS ht hds (dN c)) (by rw [bX]; exact hN) (by rw [bg]; exact hd) hs h0 hne)
    ·exact h.elim
   ·exact h.elim
theorem ye {P:Program} {ρ ρ':Operand→AV} {op:Op} (h:∀x∈op.operands,ρ x=ρ' x):gG P ρ op=gG P ρ' op:=by
 have fc:∀(place:Nat→Option (Nat×Nat)) (l:List (Nat×Operand)) (cs:List AV),(∀p∈l,ρ p.2=ρ' p.2)→fp place ρ l cs=fp place ρ' l cs:=by
  intro place l
  induction l with
  | nil=>intro cs _; rfl
  | cons p l ih =>
   obtain ⟨i,x⟩:=p
   intro cs hp
   simp only [fp,hp (i,x) (by simp)]
   cases place i with
   | none=>rfl
   | some q =>
    obtain ⟨off,size⟩:=q
    simp only
    rw [ih _ fun p hp'=>hp p (by simp [hp'])]
 have oc:∀o:Option Operand,(∀x∈o,ρ x=ρ' x)→eK ρ o=eK ρ' o:=by
  intro o ho
  cases o with
  | none=>rfl
  | some x=>simp only [eK,ho x rfl]
 have mc:∀xs:Array Operand,(∀x∈xs,ρ x=ρ' x)→xs.toList.map ρ=xs.toList.map ρ':=fun xs hx=>List.map_congr_left fun x hx'=>hx x (by simpa using hx')
 cases op<;>simp only [Op.operands] at h<;>simp only [gG]<;>try rfl
 case build t ps =>
  have hp:∀p∈ps.toList,ρ p.2=ρ' p.2:=fun p hp=>h p.2 (by
   simp only [List.mem_toArray,List.mem_map]
   exact ⟨p,hp,rfl⟩)
  simp only [fc _ ps.toList _ hp]
 case makeFunc fn a b=>rw [mc a fun x hx=>h x (by simp [hx]),mc b fun x hx=>h x (by simp [hx])]
 case slice t x lo hi mx =>
  rw [oc lo fun y hy=>h y (by cases hy; simp),oc hi fun y hy=>h y (by cases hy; simp),oc mx fun y hy=>h y (by cases hy; simp),h x (by simp)]
 case call c =>
  obtain ⟨callee,args,ats⟩:=c
  simp only [Call.operands] at h
  have ha:∀x∈args.toList,ρ x=ρ' x:=fun x hx=>h x (by simp; exact .inr (by simpa using hx))
  cases callee<;>try rfl
  rename_i b
  cases b<;>try rfl
  all_goals
   simp only
   revert ha
   generalize args.toList=l
   generalize ats.toList=m
   intro ha
   rcases l with _|⟨x,_|⟨y,_|⟨z,l⟩⟩⟩<;>rcases m with _|⟨t,_|⟨t2,m⟩⟩<;>first
    | rfl
    | (simp only [ha x (by simp),ha y (by simp)]; done)
    | (simp only [ha x (by simp)]; done)
 case move x=>simp only [h x (by simp)]
 case assign x=>simp only [h x (by simp)]
 case pick x y z=>simp only [h x (by simp),h y (by simp),h z (by simp)]
 case unOp o t x=>simp only [h x (by simp)]
 case binOp o t x y t'=>simp only [h x (by simp),h y (by simp)]
 case fieldAddr t x j=>simp only [h x (by simp)]
 case field t x j=>simp only [h x (by simp)]
 case indexAddr t x y=>simp only [h x (by simp),h y (by simp)]
 case index t x y=>simp only [h x (by simp),h y (by simp)]
 case extract x j=>simp only [h x (by simp)]
 case nilCheck x=>simp only [h x (by simp)]
theorem xQ {P:Program} {f:Nat→BS} {ρ ρ':Operand→AV} {op:Op} (h:∀x∈op.operands,ρ x=ρ' x):aL P f ρ op=aL P f ρ' op:=by
 cases op<;>simp only [Op.operands] at h<;>simp only [aL]
 case load t a=>simp only [h a (by simp)]
 case convert t t' x=>simp only [h x (by simp)]
 case lookup t m k ok=>simp only [h m (by simp),h k (by simp)]
theorem w_ {P:Program} {id:Nat} {ρ ρ':Operand→AV} {op:Op} (h:∀x∈op.operands,ρ x=ρ' x):nO P id ρ op=nO P id ρ' op:=by
 cases op<;>simp only [Op.operands] at h<;>simp only [nO]
 case box t x=>simp only [h x (by simp)]
 case makeSlice t l c=>simp only [h l (by simp),h c (by simp)]
 case buildSlice t len ps =>
  have hp:∀p∈ps.toList,ρ p.2=ρ' p.2:=fun p hp=>h p.2 (by
   simp only [List.mem_toArray,List.mem_map]
   exact ⟨p,hp,rfl⟩)
  have h1:(ps.toList.map fun p=>ρ p.2)=ps.toList.map fun p=>ρ' p.2:=List.map_congr_left hp
  have h2:∀n,(ps.toList.all fun p=>(ρ p.2).shaped n)=ps.toList.all fun p=>(ρ' p.2).shaped n:=fun n=>by
   rw [Bool.eq_iff_iff,List.all_eq_true,List.all_eq_true]
   exact ⟨fun g p hp'=>by rw [←hp p hp']; exact g p hp',fun g p hp'=>by rw [hp p hp']; exact g p hp'⟩
  simp only [h1,h2]
theorem xv {P:Program} {id:Nat} {f:Nat→BS} {ρ ρ':Operand→AV} {K:AV→(Nat→BS)→Prop} {op:Op} (h:∀x∈op.operands,ρ x=ρ' x):iO P id f ρ K op=iO P id f ρ' K op:=by
 cases op<;>simp only [Op.operands] at h<;>simp only [iO]
 case store t x v=>simp only [h x (by simp),h v (by simp)]
 case insert t m k v=>simp only [h m (by simp),h k (by simp),h v (by simp)]
 case range t x=>simp only [h x (by simp)]
 case next it b=>simp only [h it (by simp)]
 case call c =>
  obtain ⟨callee,args,ats⟩:=c
  simp only [Call.operands] at h
  have ha:∀x∈args.toList,ρ x=ρ' x:=fun x hx=>h x (by simp; exact .inr (by simpa using hx))
  cases callee<;>try rfl
  rename_i b
  cases b<;>try rfl
  revert ha
  generalize args.toList=l
  generalize ats.toList=m
  intro ha
  rcases l with _|⟨x,_|⟨y,_|⟨z,l⟩⟩⟩<;>rcases m with _|⟨t,_|⟨t2,_|⟨t3,m⟩⟩⟩<;>first
   | rfl
   | (simp only [ha x (by simp),ha y (by simp)]; done)
theorem pt {ρ ρ':Operand→AV} {c:Call} (h:∀x∈c.operands,ρ x=ρ' x):cY ρ c=cY ρ' c:=by
 obtain ⟨callee,args,ats⟩:=c
 simp only [Call.operands] at h
 have ha:∀x∈args.toList,ρ x=ρ' x:=fun x hx=>h x (by simp; exact .inr (by simpa using hx))
 cases callee<;>try rfl
 rename_i x
 simp only [cY,h x (by simp),List.map_congr_left ha]
theorem DW {P:Program} {z q bq bq':Bool} {hd:Nat→Bool} {id n:Nat} {op:Op} {ρ:Operand→AV} {f:Nat→BS} {K:AV→(Nat→BS)→Nat→Prop} (hc:aE op ≠ .c):fo P z q bq hd id n op ρ f K=fo P z q bq' hd id n op ρ f K:=by
 unfold fo
 cases h:aE op<;>first|rfl|exact absurd h hc
def jX (P:Program) (z:Bool) (hd:Nat→Bool) (id:Nat) (op:Op) (ρ:Operand→AV) (f:Nat→BS) (v:AV) (e:Option BS):Prop :=
 match aE op with
 | .v=>(∃s,gG P ρ op=some (s,v)∧s)∧e=none
 | .r=>(∃s,aL P (fz hd f) ρ op=some (s,v)∧s)∧e=none
 | .g=>∃s b,nO P id ρ op=some (s,v,b)∧s∧e=some b
 | .c=>(∃c g args,op = .call c∧cY ρ c=some (g,args)∧CV P g args f v)∧e=none
 | .l=>False
 | .n=>False
def nM (f:Nat→BS) (id:Nat):Option BS→Nat→BS
 | some b=>ap f id b
 | none=>f
theorem pj {P:Program} {z:Bool} {hd:Nat→Bool} {id n:Nat} {op:Op} {ρ:Operand→AV} {f:Nat→BS} {K:AV→(Nat→BS)→Nat→Prop} (hc:aE op ≠ .l):fo P z true false hd id n op ρ f K↔∃v e,jX P z hd id op ρ f v e∧K v (nM f id e) n:=by
 unfold fo jX
 cases h:aE op with
 | v =>
  simp only
  cases hv:gG P ρ op with
  | none=>simp
  | some q =>
   obtain ⟨s,v⟩:=q
   constructor
   ·intro ⟨h1,h2⟩; exact ⟨v,none,⟨⟨s,rfl,h1⟩,rfl⟩,h2⟩
   ·rintro ⟨v',e,⟨⟨s',h1,h2⟩,rfl⟩,h3⟩
    simp only [Option.some.injEq,Prod.mk.injEq] at h1
    obtain ⟨rfl,rfl⟩:=h1
    exact ⟨h2,h3⟩
 | r =>
  simp only
  cases hv:aL P (fz hd f) ρ op with
  | none=>simp
  | some q =>
   obtain ⟨s,v⟩:=q
   constructor
   ·intro ⟨h1,h2⟩; exact ⟨v,none,⟨⟨s,rfl,h1⟩,rfl⟩,h2⟩
   ·rintro ⟨v',e,⟨⟨s',h1,h2⟩,rfl⟩,h3⟩
    simp only [Option.some.injEq,Prod.mk.injEq] at h1
    obtain ⟨rfl,rfl⟩:=h1
    exact ⟨h2,h3⟩
 | g =>
  simp only
  cases hv:nO P id ρ op with
  | none=>simp
  | some q =>
   obtain ⟨s,v,b⟩:=q
   constructor
   ·intro ⟨h1,h2⟩; exact ⟨v,some b,⟨s,b,rfl,h1,rfl⟩,h2⟩
   ·rintro ⟨v',e,⟨s',b',h1,h2,rfl⟩,h3⟩
    simp only [Option.some.injEq,Prod.mk.injEq] at h1
    obtain ⟨rfl,rfl,rfl⟩:=h1
    exact ⟨h2,h3⟩
 | l=>exact absurd h hc
 | n =>
  simp only [if_true,false_iff]
  rintro ⟨v',e,h,_⟩; exact h
 | c =>
  simp only
  obtain ⟨c,rfl⟩:=Hm h
  simp only
  cases hv:cY ρ c with
  | none =>
   simp only [if_true,false_iff]
   rintro ⟨v',e,⟨⟨c',g,args,h1,h2,_⟩,_⟩,_⟩
   simp only [Op.call.injEq] at h1
   subst h1; rw [hv] at h2; cases h2
  | some q =>
   obtain ⟨g,args⟩:=q
   constructor
   ·rintro (⟨r,h1,h5⟩|⟨h1,_⟩)
    ·exact ⟨r,none,⟨⟨c,g,args,rfl,hv,h1⟩,rfl⟩,h5⟩
    ·cases h1
   ·rintro ⟨v',e,⟨⟨c',g',args',h1,h2,h3⟩,rfl⟩,h7⟩
    simp only [Op.call.injEq] at h1
    subst h1; rw [hv] at h2
    simp only [Option.some.injEq,Prod.mk.injEq] at h2
    obtain ⟨rfl,rfl⟩:=h2
    exact .inl ⟨v',h3,h7⟩
theorem jX.congr {P:Program} {z:Bool} {hd:Nat→Bool} {id:Nat} {op:Op} {ρ ρ':Operand→AV} {f:Nat→BS} {v:AV} {e:Option BS} (h:∀x∈op.operands,ρ x=ρ' x) (he:jX P z hd id op ρ f v e):jX P z hd id op ρ' f v e:=by
 unfold jX at *
 split at he
 ·rw [←ye h]; exact he
 ·rw [←xQ h]; exact he
 ·rw [←w_ h]; exact he
 ·obtain ⟨⟨c,g,args,rfl,h2,h3⟩,h4⟩:=he
  exact ⟨⟨c,g,args,rfl,by rw [←pt (by simpa [Op.operands] using h)]; exact h2,h3⟩,h4⟩
 ·exact he
 ·exact he
theorem jX.grow {P:Program} {z:Bool} {hd:Nat→Bool} {id:Nat} {op:Op} {ρ:Operand→AV} {f:Nat→BS} {v:AV} {e:Option BS} (he:jX P z hd id op ρ f v e) {j:Nat} (hj:f j = .fresh) {b:BS} (hb:b ≠ .fresh):jX P z hd id op ρ (ap f j b) v e:=by
 unfold jX at *
 split at he
 ·exact he
 ·obtain ⟨⟨s,h1,h2⟩,h3⟩:=he
  refine ⟨⟨s,so (fun m=>?_) h1,h2⟩,h3⟩
  unfold fz
  by_cases hm:m=j
  ·subst hm
   cases hd m
   ·exact .inr (.inr hj)
   ·exact .inr (.inl rfl)
  ·rw [af _ _ _ hm]; exact .inl rfl
 ·exact he
 ·obtain ⟨⟨c,g,args,rfl,h2,h3⟩,h7⟩:=he
  exact ⟨⟨c,g,args,rfl,h2,h3.grow hj⟩,h7⟩
 ·exact he
 ·exact he
theorem jX.indep {P:Program} {z:Bool} {hd:Nat→Bool} {id:Nat} {op:Op} {ρ:Operand→AV} {f f':Nat→BS} {v:AV} {e:Option BS} (hc:aE op = .v∨aE op = .g∨(aE op = .r∧∀m,hd m=false→f' m=f m)) (he:jX P z hd id op ρ f v e):jX P z hd id op ρ f' v e:=by
 unfold jX at *
 rcases hc with h|h|⟨h,hk⟩
 ·rw [h] at he ⊢; exact he
 ·rw [h] at he ⊢; exact he
 ·have hz:fz hd f'=fz hd f:=by
   funext m
   unfold fz
   cases hm:hd m
   ·simp only [cond_false]; exact hk m hm
   ·rfl
  rw [h] at he ⊢
  simp only at he ⊢
  rw [hz]; exact he
theorem jX.hid {P:Program} {z:Bool} {hd:Nat→Bool} {id:Nat} {op:Op} {ρ:Operand→AV} {f:Nat→BS} {v:AV} {e:Option BS} (hc:aE op = .r) {j:Nat} (hj:hd j=true) {b:BS} (he:jX P z hd id op ρ (ap f j b) v e):jX P z hd id op ρ f v e:=by
 have hz:fz hd (ap f j b)=fz hd f:=by
  funext m
  unfold fz
  by_cases hm:m=j
  ·subst hm; rw [hj]; simp
  ·rw [af _ _ _ hm]
 unfold jX at *
 rw [hc] at he ⊢
 simp only at he ⊢
 rw [hz] at he; exact he
theorem jX.made {P:Program} {z:Bool} {hd:Nat→Bool} {id:Nat} {op:Op} {ρ:Operand→AV} {f:Nat→BS} {v:AV} {b:BS} (he:jX P z hd id op ρ f v (some b)):aE op = .g∧b ≠ .fresh:=by
 unfold jX at he
 split at he
 ·cases he.2
 ·cases he.2
 ·rename_i h
  refine ⟨h,?_⟩
  obtain ⟨s,b',h1,h2,h3⟩:=he
  injection h3 with h3; subst h3
  exact vf h1
 ·cases he.2
 ·exact he.elim
 ·exact he.elim
def lZ (P : Program) (z : Bool) (ops : Array Oper) (n0 n i : Nat) (K : (Nat → AV) → (Nat → BS) → Prop) (t : Nat → AV) (f : Nat → BS) : Prop :=
  match ops[i]? with
  | none => False
  | some o =>
    match o.guard with
    | none => fo P z true (cK ops i) (dR z true ops n0 i) (n0 + i) n o.op (aS t) f fun v f' _ => K (ay t o.dst v) f'
    | some (j, want) =>
      match dm ops j with
      | some d => match t d with
        | .bool b => (b = want → fo P z true (cK ops i) (dR z true ops n0 i) (n0 + i) n o.op (aS t) f fun v f' _ => K (ay t o.dst v) f') ∧ (b = !want → K (ay t o.dst (.tup [])) f)
        | .tup [] => K (ay t o.dst (.tup [])) f
        | _ => False
      | none => False
def dO (P:Program) (z:Bool) (ops:Array Oper) (n0 i:Nat) (o:Oper) (t:Nat→AV) (f:Nat→BS) (v:AV) (e:Option BS):Prop :=
 match o.guard with
 | none=>jX P z (dR z true ops n0 i) (n0+i) o.op (aS t) f v e
 | some (j,want)=>∃d,dm ops j=some d∧((t d = .bool want∧jX P z (dR z true ops n0 i) (n0+i) o.op (aS t) f v e)∨((t d = .bool (!want)∨t d = .tup [])∧v = .tup []∧e=none))
theorem fP {P:Program} {z:Bool} {ops:Array Oper} {n0 n i:Nat} {K:(Nat→AV)→(Nat→BS)→Prop} {t:Nat→AV} {f:Nat→BS} {o:Oper} (ho:ops[i]?=some o) (hc:aE o.op ≠ .l) (hb:cK ops i=false∨aE o.op ≠ .c) :
 lZ P z ops n0 n i K t f↔∃v e,dO P z ops n0 i o t f v e∧K (ay t o.dst v) (nM f (n0+i) e):=by
 unfold lZ dO
 simp only [ho]
 have ebq:∀id ρ f (J:AV→(Nat→BS)→Nat→Prop),fo P z true (cK ops i) (dR z true ops n0 i) id n o.op ρ f J=fo P z true false (dR z true ops n0 i) id n o.op ρ f J:=fun id ρ f J=>by
  rcases hb with hb|hb
  ·rw [hb]
  ·exact DW hb
 simp only [ebq]
 cases hg:o.guard with
 | none=>simp only; exact pj hc
 | some q =>
  obtain ⟨j,want⟩:=q
  simp only
  cases hgs:dm ops j with
  | none=>simp
  | some d =>
   simp only
   cases ht:t d with
   | bool b =>
    simp only
    constructor
    ·intro ⟨h1,h2⟩
     by_cases hb:b=want
     ·obtain ⟨v,e,g1,g2⟩:=(pj hc).1 (h1 hb)
      exact ⟨v,e,⟨d,rfl,.inl ⟨by rw [ht,hb],g1⟩⟩,g2⟩
     ·have hb':b = !want:=by cases b<;>cases want<;>simp_all
      exact ⟨.tup [],none,⟨d,rfl,.inr ⟨.inl (by rw [ht,hb']),rfl,rfl⟩⟩,h2 hb'⟩
    ·rintro ⟨v,e,⟨d',h1,h3⟩,h4⟩
     simp only [Option.some.injEq] at h1; subst h1
     rw [ht] at h3
     rcases h3 with ⟨g1,g2⟩|⟨g1,rfl,rfl⟩
     ·injection g1 with g1
      exact ⟨fun _=>(pj hc).2 ⟨v,e,g2,h4⟩,fun hb=>by subst g1; cases b<;>simp at hb⟩
     ·rcases g1 with g1|g1
      ·injection g1 with g1
       exact ⟨fun hb=>by subst hb; cases b<;>simp at g1,fun _=>h4⟩
      ·cases g1
   | tup cs =>
    cases cs with
    | nil =>
     simp only
     constructor
     ·intro h; exact ⟨.tup [],none,⟨d,rfl,.inr ⟨.inr ht,rfl,rfl⟩⟩,h⟩
     ·rintro ⟨v,e,⟨d',h1,h3⟩,h4⟩
      simp only [Option.some.injEq] at h1; subst h1
      rw [ht] at h3
      rcases h3 with ⟨g1,g2⟩|⟨g1,rfl,rfl⟩
      ·cases g1
      ·exact h4
    | cons c cs =>
     simp only [false_iff]
     rintro ⟨v,e,⟨d',h1,h2⟩,_⟩
     simp only [Option.some.injEq] at h1; subst h1
     rw [ht] at h2; simp at h2
   | _ =>
    simp only [false_iff]
    rintro ⟨v,e,⟨d',h1,h2⟩,_⟩
    simp only [Option.some.injEq] at h1; subst h1
    rw [ht] at h2; simp at h2
theorem uI {o:Oper} {ops:Array Oper} {t:Nat→AV} {dst:Option Tmp} {u:AV} (h:∀d,dst=some d→d ∉ o.looksAt ops):∀x∈o.op.operands,aS (ay t dst u) x=aS t x:=by
 intro x hx
 cases dst with
 | none=>rfl
 | some d =>
  cases x with
  | tmp m =>
   simp only [aS,ay]
   refine af _ _ _ fun hm=>?_
   subst hm
   exact h m rfl (List.mem_append_left _ (List.mem_filterMap.2 ⟨.tmp m,by simpa using hx,rfl⟩))
  | _=>rfl
theorem nu {o:Oper} {ops:Array Oper} {t:Nat→AV} {dst:Option Tmp} {u:AV} (h:∀d,dst=some d→d ∉ o.looksAt ops) {j:Nat} {want:Bool} (hg:o.guard=some (j,want)) {d:Nat} (hd:dm ops j=some d):ay t dst u d=t d:=by
 cases dst with
 | none=>rfl
 | some m =>
  simp only [ay]
  refine af _ _ _ fun hm=>?_
  subst hm
  refine h d rfl ?_
  unfold dm at hd
  simp [Oper.looksAt,hg,hd]
theorem dO.put {P:Program} {z:Bool} {ops:Array Oper} {n0 i:Nat} {o:Oper} {t:Nat→AV} {f:Nat→BS} {v:AV} {e:Option BS} {dst:Option Tmp} {u:AV} (h:∀d,dst=some d→d ∉ o.looksAt ops):dO P z ops n0 i o (ay t dst u) f v e↔dO P z ops n0 i o t f v e:=by
 have ha:=uI (o:=o) (ops:=ops) (t:=t) (u:=u) h
 have hE:jX P z (dR z true ops n0 i) (n0+i) o.op (aS (ay t dst u)) f v e↔jX P z (dR z true ops n0 i) (n0+i) o.op (aS t) f v e:=⟨jX.congr ha,jX.congr fun x hx=>(ha x hx).symm⟩
 unfold dO
 cases hg:o.guard with
 | none=>exact hE
 | some q =>
  obtain ⟨j,want⟩:=q
  simp only
  constructor
  ·rintro ⟨d,h1,h3⟩; rw [nu (t:=t) (u:=u) h hg h1] at h3; exact ⟨d,h1,h3.imp (fun ⟨x,y⟩=>⟨x,hE.1 y⟩) id⟩
  ·rintro ⟨d,h1,h3⟩; refine ⟨d,h1,?_⟩; rw [nu (t:=t) (u:=u) h hg h1]; exact h3.imp (fun ⟨x,y⟩=>⟨x,hE.2 y⟩) id
theorem dO.grow {P:Program} {z:Bool} {ops:Array Oper} {n0 i:Nat} {o:Oper} {t:Nat→AV} {f:Nat→BS} {v:AV} {e:Option BS} (he:dO P z ops n0 i o t f v e) {j:Nat} (hj:f j = .fresh) {b:BS} (hb:b ≠ .fresh):dO P z ops n0 i o t (ap f j b) v e:=by
 unfold dO at *
 split at he
 ·exact he.grow hj hb
 ·obtain ⟨d,h1,h3⟩:=he
  exact ⟨d,h1,h3.imp (fun ⟨x,y⟩=>⟨x,y.grow hj hb⟩) id⟩
theorem dO.indep {P:Program} {z:Bool} {ops:Array Oper} {n0 i:Nat} {o:Oper} {t:Nat→AV} {f f':Nat→BS} {v:AV} {e:Option BS} (hc:aE o.op = .v∨aE o.op = .g∨(aE o.op = .r∧∀m,dR z true ops n0 i m=false→f' m=f m)) (he:dO P z ops n0 i o t f v e):dO P z ops n0 i o t f' v e:=by
 unfold dO at *
 split at he
 ·exact he.indep hc
 ·obtain ⟨d,h1,h3⟩:=he
  exact ⟨d,h1,h3.imp (fun ⟨x,y⟩=>⟨x,y.indep hc⟩) id⟩
theorem dO.hid {P:Program} {z:Bool} {ops:Array Oper} {n0 i:Nat} {o:Oper} {t:Nat→AV} {f:Nat→BS} {v:AV} {e:Option BS} (hc:aE o.op = .r) {j:Nat} (hj:dR z true ops n0 i j=true) {b:BS} (he:dO P z ops n0 i o t (ap f j b) v e):dO P z ops n0 i o t f v e:=by
 unfold dO at *
 split at he
 ·exact he.hid hc hj
 ·obtain ⟨d,h1,h3⟩:=he
  exact ⟨d,h1,h3.imp (fun ⟨x,y⟩=>⟨x,y.hid hc hj⟩) id⟩
theorem dO.made {P:Program} {z:Bool} {ops:Array Oper} {n0 i:Nat} {o:Oper} {t:Nat→AV} {f:Nat→BS} {v:AV} {b:BS} (he:dO P z ops n0 i o t f v (some b)):aE o.op = .g∧b ≠ .fresh:=by
 unfold dO at he
 split at he
 ·exact he.made
 ·obtain ⟨d,h1,h3⟩:=he
  rcases h3 with ⟨_,h3⟩|⟨_,_,h3⟩
  ·exact h3.made
  ·cases h3
theorem oT (t:Nat→AV) {x y:Option Tmp} (v u:AV) (h:∀d,x=some d→y≠some d):ay (ay t x v) y u=ay (ay t y u) x v:=by
 cases x with
 | none=>rfl
 | some d =>
  cases y with
  | none=>rfl
  | some e=>exact sH t v u fun he=>h d rfl (he▸rfl)
def mf (z:Bool):Cls→Cls→Bool
 | .v,_=>true
 | .r,.l=>z
 | .c,.l=>false
 | .r,_=>true
 | .c,_=>true
 | .g,.v=>true
 | .g,.g=>true
 | .g,.r=>true
 | _,_=>false
theorem yB {P:Program} {z:Bool} {ops:Array Oper} {n0 n i j:Nat} {K:(Nat→AV)→(Nat→BS)→Prop} {t:Nat→AV} {f:Nat→BS} {oi oj:Oper} (hi:ops[i]?=some oi) (hj:ops[j]?=some oj) (hne:i≠j) (hap:oi.apart ops oj=true) (hcp:mf z (aE oi.op) (aE oj.op)=true) (hid:aE oi.op = .g→Cc ops j i=true)
 (bi:cK ops i=false) (bj:cK ops j=false) (fi:f (n0+i) = .fresh) (fj:f (n0+j) = .fresh) (h:lZ P z ops n0 n i (fun t f=>lZ P z ops n0 n j K t f) t f):lZ P z ops n0 n j (fun t f=>lZ P z ops n0 n i K t f) t f:=by
 obtain ⟨a1,a2,a3⟩:=Oper.apart_spec hap
 have hli:aE oi.op ≠ .l:=by intro he; rw [he] at hcp; cases hh:aE oj.op<;>rw [hh] at hcp<;>simp [mf] at hcp
 rw [fP hi hli (.inl bi)] at h
 obtain ⟨vi,ei,h1,h2⟩:=h
 by_cases hlj:aE oj.op = .l
 ·
  have hv:aE oi.op = .v∨(aE oi.op = .r∧z=true):=by rw [hlj] at hcp; cases hh:aE oi.op<;>rw [hh] at hcp<;>simp [mf] at hcp<;>simp [hcp]
  have hei:ei=none:=by
   cases ei with
   | none=>rfl
   | some b=>have:=h1.made.1; rcases hv with hv|⟨hv,_⟩<;>rw [hv] at this<;>cases this
  subst hei
  simp only [nM] at h2
  have hkz:∀f':Nat→BS,((z && true)=true→∀m,dR z true ops n0 j m=false→f' m=f m)→aE oi.op = .v∨aE oi.op = .g∨(aE oi.op = .r∧∀m,dR z true ops n0 i m=false→f' m=f m):=by
   intro f' hk
   rcases hv with h|⟨h,hz⟩
   ·exact .inl h
   ·refine .inr (.inr ⟨h,fun m hm=>?_⟩)
    subst hz
    exact hk rfl m (by unfold dR at hm ⊢; simpa using hm)
  have back:∀(u:AV) (f':Nat→BS),((z && true)=true→∀m,dR z true ops n0 j m=false→f' m=f m)→K (ay (ay t oi.dst vi) oj.dst u) f'→lZ P z ops n0 n i K (ay t oj.dst u) f':=by
   intro u f' hkp hK
   rw [fP hi hli (.inl bi)]
   refine ⟨vi,none,(dO.put a3).2 (h1.indep (hkz f' hkp)),?_⟩
   simp only [nM]
   rwa [oT t u vi (fun d hd=>fun hx=>a2 d hx hd)]
  unfold lZ at h2 ⊢
  simp only [hj] at h2 ⊢
  have ha:=uI (o:=oj) (ops:=ops) (t:=t) (u:=vi) a1
  have hop:∀K':AV→(Nat→BS)→Nat→Prop,fo P z true (cK ops j) (dR z true ops n0 j) (n0+j) n oj.op (aS (ay t oi.dst vi)) f K'→fo P z true (cK ops j) (dR z true ops n0 j) (n0+j) n oj.op (aS t) f K':=by
   intro K' hK'
   unfold fo at hK' ⊢
   simp only [hlj] at hK' ⊢
   rwa [xv ha] at hK'
  have hmono:∀K' K'':AV→(Nat→BS)→Nat→Prop,(∀v f',((z && true)=true→∀m,dR z true ops n0 j m=false→f' m=f m)→K' v f' n→K'' v f' n)→fo P z true (cK ops j) (dR z true ops n0 j) (n0+j) n oj.op (aS t) f K'→fo P z true (cK ops j) (dR z true ops n0 j) (n0+j) n oj.op (aS t) f K'':=by
   intro K' K'' hk hK'
   unfold fo at hK' ⊢
   simp only [hlj,jG,cond_true,Bool.cond_self] at hK' ⊢
   obtain ⟨v,f',g1,g2,_⟩:=iD hK'
   exact g1 _ ⟨g2.1,hk v f' g2.1 g2.2⟩
  cases hg:oj.guard with
  | none =>
   simp only [hg] at h2 ⊢
   exact hmono _ _ (fun v f' hkp hK=>back v f' hkp hK) (hop _ h2)
  | some q =>
   obtain ⟨jj,want⟩:=q
   simp only [hg] at h2 ⊢
   cases hgs:dm ops jj with
   | none=>simp only [hgs] at h2
   | some d =>
    simp only [hgs] at h2 ⊢
    rw [nu a1 hg hgs] at h2
    cases htd:t d with
    | bool b =>
     simp only [htd] at h2 ⊢
     exact ⟨fun hb=>hmono _ _ (fun v f' hkp hK=>back v f' hkp hK) (hop _ (h2.1 hb)),fun hb=>back _ _ (fun _ _ _=>rfl) (h2.2 hb)⟩
    | tup cs =>
     cases cs with
     | nil=>simp only [htd] at h2 ⊢; exact back _ _ (fun _ _ _=>rfl) h2
     | cons c cs=>simp only [htd] at h2
    | _=>simp only [htd] at h2
 ·rw [fP hj hlj (.inl bj)] at h2
  obtain ⟨vj,ej,h3,h4⟩:=h2
  have h3':dO P z ops n0 j oj t f vj ej:=by
   have h5:=(dO.put a1).1 h3
   cases ei with
   | none=>exact h5
   | some b =>
    have hg:=h1.made.1
    have hhid:=hid hg
    rw [hg] at hcp
    by_cases hr:aE oj.op = .r
    ·exact h5.hid hr (by unfold dR; simp [hhid])
    ·refine h5.indep ?_
     cases hh:aE oj.op<;>rw [hh] at hcp<;>simp [mf] at hcp<;>first|(simp; done)|exact absurd hh hr
  rw [fP hj hlj (.inl bj)]
  refine ⟨vj,ej,h3',?_⟩
  rw [fP hi hli (.inl bi)]
  refine ⟨vi,ei,(dO.put a3).2 ?_,?_⟩
  ·cases ej with
   | none=>exact h1
   | some b=>exact h1.grow fj h3'.made.2
  ·rw [oT t vj vi (fun d hd=>fun hx=>a2 d hx hd)]
   have:nM (nM f (n0+j) ej) (n0+i) ei=nM (nM f (n0+i) ei) (n0+j) ej:=by
    cases ei<;>cases ej<;>simp only [nM]
    exact sH f _ _ (by omega)
   rw [this]
   exact h4
theorem l4 {P:Program} {z:Bool} {ops:Array Oper} {n0 n i:Nat} {K K':(Nat→AV)→(Nat→BS)→Prop} {t:Nat→AV} {f:Nat→BS} (hK:∀t' f',(∀m,m≠n0+i→f m = .fresh→f' m = .fresh)→K t' f'→K' t' f') (h:lZ P z ops n0 n i K t f):lZ P z ops n0 n i K' t f:=by
 cases ho:ops[i]? with
 | none=>simp [lZ,ho] at h
 | some o =>
  by_cases hl:aE o.op = .l∨(aE o.op = .c∧cK ops i=true)
  ·have hm:∀J J':AV→(Nat→BS)→Nat→Prop,(∀v f',(∀m,m≠n0+i→f m = .fresh→f' m = .fresh)→J v f' n→J' v f' n)→fo P z true (cK ops i) (dR z true ops n0 i) (n0+i) n o.op (aS t) f J→fo P z true (cK ops i) (dR z true ops n0 i) (n0+i) n o.op (aS t) f J':=by
    intro J J' hj hJ
    unfold fo at hJ ⊢
    rcases hl with hl|⟨hl,_⟩
    ·simp only [hl,jG,cond_true,Bool.cond_self] at hJ ⊢
     obtain ⟨v,f',g1,g2,g3,_⟩:=iD hJ
     exact g1 _ ⟨g2.1,hj v f' g3 g2.2⟩
    ·simp only [hl,if_true] at hJ ⊢
     split at hJ
     ·split at hJ
      ·rcases hJ with ⟨r,h1,h2⟩|⟨h1,h2⟩
       ·exact .inl ⟨r,h1,hj _ _ (fun _ _ h=>h) h2⟩
       ·exact .inr ⟨h1,h2.mono fun r f' hf hr=>hj _ _ (fun m _ h=>(hf m).2 h) hr⟩
      ·exact hJ
     ·exact hJ
   unfold lZ at h ⊢
   simp only [ho] at h ⊢
   cases hg:o.guard with
   | none=>simp only [hg] at h ⊢; exact hm _ _ (fun v f' h1 h2=>hK _ _ h1 h2) h
   | some q =>
    obtain ⟨j,want⟩:=q
    simp only [hg] at h ⊢
    split at h
    ·split at h
     ·exact ⟨fun hb=>hm _ _ (fun v f' h1 h2=>hK _ _ h1 h2) (h.1 hb),fun hb=>hK _ _ (fun _ _ h=>h) (h.2 hb)⟩
     ·exact hK _ _ (fun _ _ h=>h) h
     ·exact h.elim
    ·exact h.elim
  ·have hl':aE o.op ≠ .l:=fun h=>hl (.inl h)
   have hb':cK ops i=false∨aE o.op ≠ .c:=by
    cases hb:cK ops i with
    | false=>exact .inl rfl
    | true=>exact .inr fun h=>hl (.inr ⟨h,hb⟩)
   rw [fP ho hl' hb'] at h ⊢
   obtain ⟨v,e,h1,h2⟩:=h
   refine ⟨v,e,h1,hK _ _ (fun m hm hfm=>?_) h2⟩
   cases e with
   | none=>exact hfm
   | some b=>simp only [nM]; rw [af _ _ _ hm]; exact hfm
theorem yC {P:Program} {z:Bool} {ops:Array Oper} {n0 n i:Nat} {K:(Nat→AV)→(Nat→BS)→Prop} {t:Nat→AV} {f:Nat→BS} (hb:cK ops i=false) (h:lZ P z ops n0 n i K t f):∃t' f',K t' f':=by
 cases ho:ops[i]? with
 | none=>simp [lZ,ho] at h
 | some o =>
  by_cases hl:aE o.op = .l
  ·have hm:∀J:AV→(Nat→BS)→Nat→Prop,fo P z true (cK ops i) (dR z true ops n0 i) (n0+i) n o.op (aS t) f J→∃v f',J v f' n:=by
    intro J hJ
    unfold fo at hJ
    simp only [hl,jG,cond_true,Bool.cond_self] at hJ
    obtain ⟨v,f',g1,g2,g3⟩:=iD hJ
    exact ⟨v,f',g2.2⟩
   unfold lZ at h
   simp only [ho] at h
   cases hg:o.guard with
   | none=>simp only [hg] at h; obtain ⟨v,f',h⟩:=hm _ h; exact ⟨_,_,h⟩
   | some q =>
    obtain ⟨j,want⟩:=q
    simp only [hg] at h
    split at h
    ·split at h
     ·rename_i b _
      by_cases hb:b=want
      ·obtain ⟨v,f',h⟩:=hm _ (h.1 hb); exact ⟨_,_,h⟩
      ·exact ⟨_,_,h.2 (by cases b<;>cases want<;>simp_all)⟩
     ·exact ⟨_,_,h⟩
     ·exact h.elim
    ·exact h.elim
  ·rw [fP ho hl (.inl hb)] at h
   obtain ⟨v,e,h1,h2⟩:=h
   exact ⟨_,_,h2⟩
def iN (P:Program) (z:Bool) (ops:Array Oper) (n0 n:Nat) (K:(Nat→AV)→(Nat→BS)→Prop):Nat→Array Bool→(Nat→AV)→(Nat→BS)→Prop
 | 0,listed,t,f=>Region.ready .any ops listed=[]∧K t f
 | fuel+1,listed,t,f=>(Region.ready .any ops listed=[]→K t f)∧∀i∈Region.ready .any ops listed,lZ P z ops n0 n i (fun t' f'=>iN P z ops n0 n K fuel (listed.setIfInBounds i true) t' f') t f
theorem C7 (acc:List Nat) (o:Oper) (i:Nat) (h:(Lu acc o).testBit i=true):∃e∈o.after.toList,Region.binds .any e=true∧(e.on=i∨(acc.getD e.on 0).testBit i=true):=by
 unfold Lu at h
 have key:∀(l:List Edge) (s:Nat),(l.foldl (fun s e=>if Region.binds .any e then s ||| (2 ^ e.on ||| acc.getD e.on 0) else s) s).testBit i=true→s.testBit i=true∨∃e∈l,Region.binds .any e=true∧(e.on=i∨(acc.getD e.on 0).testBit i=true):=by
  intro l
  induction l with
  | nil=>intro s h; exact .inl h
  | cons e l ih =>
   intro s h
   simp only [List.foldl_cons] at h
   rcases ih _ h with h1|⟨e',h1,h2⟩
   ·split at h1
    ·rename_i hb
     simp only [Nat.testBit_or,Bool.or_eq_true,Nat.testBit_two_pow,decide_eq_true_eq] at h1
     rcases h1 with h1|h1|h1
     ·exact .inl h1
     ·exact .inr ⟨e,by simp,hb,.inl h1⟩
     ·exact .inr ⟨e,by simp,hb,.inr h1⟩
    ·exact .inl h1
   ·exact .inr ⟨e',by simp [h1],h2⟩
 rcases key _ 0 h with h1|h1
 ·simp at h1
 ·exact h1
def Dc (ops:Array Oper) (acc:List Nat):Prop:=∀(j m:Nat),acc[j]?=some m→∀i,m.testBit i=true→∃o,ops[j]?=some o∧∃e∈o.after.toList,Region.binds .any e=true∧(e.on=i∨(e.on<j∧(acc.getD e.on 0).testBit i=true))
theorem yF (ops:Array Oper):∀(l:List Oper) (acc:List Nat),(∀j,l[j]?=ops[acc.length+j]?)→Dc ops acc→Dc ops (sW acc l)
 | [],acc,_,h=>h
 | o::l,acc,hl,h=>by
  refine yF ops l _ (fun j=>?_) fun j m hj i hi=>?_
  ·have:=hl (j+1)
   simpa [Nat.add_assoc,Nat.add_comm 1 j] using this
  ·rcases Nat.lt_trichotomy j acc.length with hlt|heq|hgt
   ·rw [List.getElem?_append_left hlt] at hj
    obtain ⟨o',h1,e,h2,h3,h4⟩:=h j m hj i hi
    refine ⟨o',h1,e,h2,h3,h4.imp id fun ⟨h5,h6⟩=>⟨h5,?_⟩⟩
    rw [List.getD_eq_getElem?_getD] at h6 ⊢
    rwa [List.getElem?_append_left (by omega)]
   ·subst heq
    simp only [List.getElem?_append_right (Nat.le_refl _),Nat.sub_self,List.getElem?_cons_zero,Option.some.injEq] at hj
    subst hj
    have ho:ops[acc.length]?=some o:=by have:=hl 0; simpa using this.symm
    obtain ⟨e,h2,h3,h4⟩:=C7 acc o i hi
    refine ⟨o,ho,e,h2,h3,?_⟩
    rcases h4 with h4|h4
    ·exact .inl h4
    ·have hlt:e.on<acc.length:=by
      rcases Nat.lt_or_ge e.on acc.length with h'|h'
      ·exact h'
      ·rw [List.getD_eq_getElem?_getD,List.getElem?_eq_none h'] at h4; simp at h4
     refine .inr ⟨hlt,?_⟩
     rw [List.getD_eq_getElem?_getD] at h4 ⊢
     rwa [List.getElem?_append_left hlt]
   ·rw [List.getElem?_eq_none (by simp; omega)] at hj; cases hj
def lS (ops:Array Oper) (listed:Array Bool):Prop:=∀j,listed.getD j false=true→∀o,ops[j]?=some o→∀e∈o.after,Region.binds .any e=true→listed.getD e.on false=true
theorem eb {ops:Array Oper} {listed:Array Bool} (hs:lS ops listed):∀(j:Nat),(∀o,ops[j]?=some o→∀e∈o.after,Region.binds .any e=true→listed.getD e.on false=true)→∀i,((sW [] ops.toList).getD j 0).testBit i=true→listed.getD i false=true:=by
 have hok:=yF ops ops.toList [] (by simp) (fun j m h=>by simp at h)
 intro j
 induction j using Nat.strongRecOn with
 | _ j ih =>
  intro hj i hi
  rw [List.getD_eq_getElem?_getD] at hi
  cases hm:(sW [] ops.toList)[j]? with
  | none=>rw [hm] at hi; simp at hi
  | some m =>
   rw [hm] at hi
   simp only [Option.getD_some] at hi
   obtain ⟨o,h1,e,h2,h3,h4⟩:=hok j m hm i hi
   have he:=hj o h1 e (by simpa using h2) h3
   rcases h4 with rfl|⟨h5,h6⟩
   ·exact he
   ·exact ih e.on h5 (fun o' ho'=>hs e.on he o' ho') i h6
def ql (z:Bool) (ops:Array Oper) (bs:List Nat) (i j:Nat) (oi oj:Oper):Bool:=(bs.getD j 0).testBit i || (oi.apart ops oj && mf z (aE oi.op) (aE oj.op))
theorem po {ops:Array Oper} {listed:Array Bool} (hs:lS ops listed) {i j:Nat} (hi:i∈Region.ready .any ops listed) (hj:j∈Region.ready .any ops listed) (hij:i≠j):cK ops i=false:=by
 cases hb:cK ops i with
 | false=>rfl
 | true =>
  obtain ⟨hiun,oi,hoi,halli⟩:=mem_ready.1 hi
  obtain ⟨hjun,oj,hoj,hallj⟩:=mem_ready.1 hj
  have key:∀(m k:Nat),m∈Region.ready .any ops listed→k∈Region.ready .any ops listed→((sW [] ops.toList).getD m 0).testBit k=true→False:=by
   intro m k hm hk hbit
   obtain ⟨_,om,hom,hallm⟩:=mem_ready.1 hm
   have hkun:=(mem_ready.1 hk).1
   have:=eb hs m (fun o ho e he hb=>by rw [hom] at ho; injection ho with ho; subst ho; exact hallm e he hb) k hbit
   rcases Nat.lt_or_ge k listed.size with h'|h'
   ·simp [h'] at this hkun; rw [this] at hkun; cases hkun
   ·simp [Array.getElem?_eq_none h'] at this
  unfold cK at hb
  rw [List.all_eq_true] at hb
  have:=hb j (List.mem_range.2 (Array.getElem?_eq_some_iff.1 hoj).1)
  simp only [Bool.or_eq_true,beq_iff_eq] at this
  rcases this with h1|h1|h1
  ·exact absurd h1.symm hij
  ·exact (key i j hi hj h1).elim
  ·exact (key j i hj hi h1).elim
theorem sT {P:Program} {z:Bool} {ops:Array Oper} {n0 n:Nat} {K:(Nat→AV)→(Nat→BS)→Prop} {i:Nat} {oi:Oper} (hi:ops[i]?=some oi):∀(fuel:Nat) (listed:Array Bool) (t:Nat→AV) (f:Nat→BS),lS ops listed →
 (∀j oj,ops[j]?=some oj→j≠i→listed.getD j true=false→(aE oi.op = .g→i<j)∧ql z ops (sW [] ops.toList) i j oi oj=true)→i∈Region.ready .any ops listed→(∀j,j<ops.size→listed.getD j true=false→f (n0+j) = .fresh) →
 lZ P z ops n0 n i (fun t' f'=>iN P z ops n0 n K fuel (listed.setIfInBounds i true) t' f') t f→iN P z ops n0 n K (fuel+1) listed t f:=by
 intro fuel
 induction fuel with
 | zero =>
  intro listed t f hsh _ hr _ H
  refine ⟨fun h=>(by rw [h] at hr; cases hr),fun j hj=>?_⟩
  by_cases hji:j=i
  ·subst hji; exact H
  ·have:=ready_mono hj hji
   obtain ⟨t',f',h1,_⟩:=yC (po hsh hr hj (Ne.symm hji)) H
   rw [h1] at this
   cases this
 | succ fuel ih =>
  intro listed t f hsh hp hr hids H
  refine ⟨fun h=>(by rw [h] at hr; cases hr),fun j hj=>?_⟩
  by_cases hji:j=i
  ·subst hji; exact H
  ·obtain ⟨hjun,oj,hoj,hall⟩:=mem_ready.1 hj
   have hiun:=(mem_ready.1 hr).1
   have hlti:i<ops.size:=(Array.getElem?_eq_some_iff.1 hi).1
   have hltj:j<ops.size:=(Array.getElem?_eq_some_iff.1 hoj).1
   obtain ⟨hij,hpair⟩:=hp j oj hoj hji hjun
   have hnw:((sW [] ops.toList).getD j 0).testBit i=false:=by
    cases hb:((sW [] ops.toList).getD j 0).testBit i with
    | false=>rfl
    | true =>
     have:=eb hsh j (fun o ho e he hb=>by rw [hoj] at ho; injection ho with ho; subst ho; exact hall e he hb) i hb
     rcases Nat.lt_or_ge i listed.size with h'|h'
     ·simp [h'] at this hiun; rw [this] at hiun; cases hiun
     ·simp [Array.getElem?_eq_none h'] at this
   simp only [ql,hnw,Bool.false_or,Bool.and_eq_true] at hpair
   have H1:lZ P z ops n0 n i (fun t' f'=>lZ P z ops n0 n j (fun t' f'=>iN P z ops n0 n K fuel ((listed.setIfInBounds i true).setIfInBounds j true) t' f') t' f') t f :=
    l4 (fun t' f' _ h=>h.2 j (ready_mono hj hji)) H
   have H2:=yB hi hoj (Ne.symm hji) hpair.1 hpair.2 (fun hg=>by unfold Cc gB; rw [hnw]; simp [hij hg,hi,hg]) (po hsh hr hj (Ne.symm hji)) (po hsh hj hr hji) (hids i hlti hiun) (hids j hltj hjun) H1
   refine l4 (fun t' f' hfr h=>ih (listed.setIfInBounds j true) t' f' ?_ ?_ (ready_mono hr (Ne.symm hji)) ?_ ?_) H2
   ·intro m hm o ho e he hb
    by_cases hmj:j=m
    ·subst hmj; rw [hoj] at ho; injection ho with ho; subst ho; exact getD_set_true (hall e he hb)
    ·rw [getD_set_ne false hmj] at hm; exact getD_set_true (hsh m hm o ho e he hb)
   ·intro m om hom hmi hun
    refine hp m om hom hmi ?_
    by_cases hjm:j=m
    ·subst hjm; exact hjun
    ·rw [getD_set_ne true hjm] at hun; exact hun
   ·intro m hm hun
    have hjm:j≠m:=by
     intro he; subst he
     rcases Nat.lt_or_ge j listed.size with h'|h'
     ·simp [h'] at hun
     ·simp [Array.getElem?_eq_none h'] at hjun
    rw [getD_set_ne true hjm] at hun
    exact hfr _ (by omega) (hids m hm hun)
   ·rw [Array.setIfInBounds_comm _ _ hji]
    exact h
def eH (z:Bool) (ops:Array Oper):Bool :=
 ops.toList.zipIdx.all fun (oj,j)=>(oj.after.toList.all fun e => !Region.binds .any e || decide (e.on<j)) &&
  (ops.toList.zipIdx.all fun (oi,i) => !decide (i<j) || ql z ops (sW [] ops.toList) i j oi oj)
theorem dt {z:Bool} {ops:Array Oper} (h:eH z ops=true) {j:Nat} {oj:Oper} (hj:ops[j]?=some oj):(∀e∈oj.after,Region.binds .any e=true→e.on<j)∧∀i oi,ops[i]?=some oi→i<j→ql z ops (sW [] ops.toList) i j oi oj=true:=by
 unfold eH at h
 rw [List.all_eq_true] at h
 have hmem:∀(i:Nat) (oi:Oper),ops[i]?=some oi→(oi,i)∈ops.toList.zipIdx:=fun i oi hi=>by
  rw [List.mem_zipIdx_iff_getElem?]; simpa using hi
 have h1:=h (oj,j) (hmem j oj hj)
 simp only [Bool.and_eq_true,List.all_eq_true] at h1
 refine ⟨fun e he hb=>?_,fun i oi hi hij=>?_⟩
 ·have:=h1.1 e (by simpa using he)
  simpa [hb] using this
 ·have:=h1.2 (oi,i) (hmem i oi hi)
  simpa [hij] using this
theorem lT {P:Program} {z:Bool} {ops:Array Oper} (hlex:eH z ops=true) {n0 n:Nat} {K:St→Prop}:∀(l:List Oper) (k:Nat) (listed:Array Bool) (t:Nat→AV) (f:Nat→BS),(∀j,l[j]?=ops[k+j]?)→listed.size=ops.size→(∀j,j<ops.size→listed.getD j true=decide (j<k)) →
 (∀j,j<ops.size→k≤j→f (n0+j) = .fresh)→cJ P z true ops n0 K k l t f n→iN P z ops n0 n (fun t f=>K ⟨t,dB n f,n⟩) l.length listed t f
 | [],k,listed,t,f,hl,hsz,hli,_,h=>by
  simp only [cJ] at h
  refine ⟨?_,h⟩
  have hk:ops.size≤k:=by
   rcases Nat.lt_or_ge k ops.size with h'|h'
   ·have:=hl 0; simp [h'] at this
   ·exact h'
  unfold Region.ready
  rw [List.filter_eq_nil_iff]
  intro j hj
  rw [List.mem_range] at hj
  have:=hli j hj
  rw [this]
  simp; omega
 | o::l,k,listed,t,f,hl,hsz,hli,hfr,h=>by
  have ho:ops[k]?=some o:=by have:=hl 0; simpa using this.symm
  have hk:k<ops.size:=(Array.getElem?_eq_some_iff.1 ho).1
  have hsh:lS ops listed:=by
   intro j hj o' ho' e he hb
   have hjs:j<ops.size:=(Array.getElem?_eq_some_iff.1 ho').1
   have hjk:j<k:=by
    have h1:=hli j hjs
    have h2:listed.getD j true=true:=by
     rw [Array.getD_eq_getD_getElem?] at hj ⊢
     rw [Array.getElem?_eq_getElem (by omega)] at hj ⊢
     simpa using hj
    rw [h2] at h1; simpa using h1.symm
   have hej:=(dt hlex ho').1 e he hb
   have h3:=hli e.on (by omega)
   rw [Array.getD_eq_getD_getElem?,Array.getElem?_eq_getElem (by omega)] at h3 ⊢
   simp only [Option.getD_some] at h3 ⊢
   rw [h3]; simp; omega
  refine sT ho l.length listed t f hsh (fun j oj hoj hji hun=>?_) ?_ (fun j hj hun=>?_) ?_
  ·have hjs:j<ops.size:=(Array.getElem?_eq_some_iff.1 hoj).1
   rw [hli j hjs] at hun
   have hkj:k<j:=by simp at hun; omega
   exact ⟨fun _=>hkj,(dt hlex hoj).2 k o ho hkj⟩
  ·rw [mem_ready]
   refine ⟨by rw [hli k hk]; simp,o,ho,fun e he hb=>?_⟩
   have hej:=(dt hlex ho).1 e he hb
   have h3:=hli e.on (by omega)
   rw [Array.getD_eq_getD_getElem?,Array.getElem?_eq_getElem (by omega)] at h3 ⊢
   simp only [Option.getD_some] at h3 ⊢
   rw [h3]; simp; omega
  ·rw [hli j hj] at hun
   exact hfr j hj (by simp at hun; omega)
  ·
   have conv:∀(J:AV→(Nat→BS)→Nat→Prop) (t0:Nat→AV),fo P z true (cK ops k) (dR z true ops n0 k) (n0+k) n o.op (aS t0) f J→fo P z true (cK ops k) (dR z true ops n0 k) (n0+k) n o.op (aS t0) f fun v f' _=>J v f' n:=by
    intro J t0 hJ
    unfold fo at hJ ⊢
    cases hc:aE o.op<;>simp only [hc,jG,cond_true,Bool.cond_self] at hJ ⊢ <;> exact hJ
   have hnext:∀t' f',(∀m,m≠n0+k→f m = .fresh→f' m = .fresh)→cJ P z true ops n0 K (k+1) l t' f' n→iN P z ops n0 n (fun t f=>K ⟨t,dB n f,n⟩) l.length (listed.setIfInBounds k true) t' f':=by
    intro t' f' hfr' h'
    refine lT hlex l (k+1) _ t' f' (fun j=>?_) (by simpa using hsz) (fun j hj=>?_) (fun j hj hkj=>hfr' _ (by omega) (hfr j hj (by omega))) h'
    ·have:=hl (j+1); simpa [Nat.add_assoc,Nat.add_comm 1 j] using this
    ·by_cases hkj:k=j
     ·subst hkj; simp [hsz,hk]
     ·rw [getD_set_ne true hkj,hli j hj]
      simp; omega
   simp only [cJ] at h
   have hat:lZ P z ops n0 n k (fun t' f'=>cJ P z true ops n0 K (k+1) l t' f' n) t f:=by
    unfold lZ
    simp only [ho]
    cases hg:o.guard with
    | none=>simp only [hg] at h ⊢; exact conv _ t h
    | some q =>
     obtain ⟨j,want⟩:=q
     simp only [hg] at h ⊢
     cases hgs:dm ops j with
     | none=>simp only [hgs] at h
     | some d =>
      simp only [hgs] at h ⊢
      cases htd:t d with
      | bool b =>
       simp only [htd] at h ⊢
       refine ⟨fun hb=>?_,fun hb=>?_⟩
       ·have hu:=fM t d (v := .bool want) (by rw [htd,hb])
        have:=h.1 hb
        rw [hu] at this
        exact conv _ t this
       ·have hu:=fM t d (v := .bool (!want)) (by rw [htd,hb])
        have:=h.2 hb
        rw [hu] at this
        exact this
      | tup cs =>
       cases cs with
       | nil=>simp only [htd] at h ⊢; exact h
       | cons c cs=>simp only [htd] at h
      | _=>simp only [htd] at h
   exact l4 (fun t' f' hfr' h'=>hnext t' f' hfr' h') hat
theorem lV {P:Program} {z:Bool} {rr:Option Nat} (hro:rr=rr) {ops:Array Oper} {n0 n ne N:Nat} {c0:Cx} {K:(Nat→AV)→(Nat→BS)→Prop} {Q:Exit→Act→World→Prop} (hdst:∀o∈ops.toList,∀d,o.dst=some d→d<N) (hn:n0+ops.size≤n)
 (hQ:∀t f a w,K t f→nJ c0 ne N ⟨t,dB n f,n⟩ a w→Q .normal a w):∀(fuel:Nat) (listed:Array Bool) (t:Nat→AV) (f:Nat→BS) (a:Act) (c:Cx),iN P z ops n0 n K fuel listed t f→HOk c f→(∀j,n≤j→f j = .fresh) →
  (∀j,j<ops.size→listed.getD j true=false→f (n0+j) = .fresh)→(∀k,Rv c (t k) (a.tmps.getD k undef))→a.tmps.size=N→cg c c0.w.heap.size a.defers→Stp c0 c→(∀j,c0.U j→j<ne)→ne≤n→wpAnyIn (Fr rr) 0 P .any ops Q fuel listed a c.w:=by
 intro fuel
 induction fuel with
 | zero =>
  intro listed t f a c h hk hfr hids ht hN hd hs h0 hne
  exact ⟨h.1,hQ t f a c.w h.2 ⟨c.past n,rfl,hk.past hfr,gR hfr,fun k=>(ht k).keep (Stp.past c n) hk.shut,hN,hd.keep (Stp.past c n),hs.trans (Stp.past c n),h0,hne⟩⟩
 | succ fuel ih =>
  intro listed t f a c h hk hfr hids ht hN hd hs h0 hne
  refine ⟨fun hr=>hQ t f a c.w (h.1 hr) ⟨c.past n,rfl,hk.past hfr,gR hfr,fun k=>(ht k).keep (Stp.past c n) hk.shut,hN,hd.keep (Stp.past c n),hs.trans (Stp.past c n),h0,hne⟩,fun i hi=>?_⟩
  have hat:=h.2 i hi
  obtain ⟨hun,o,ho,hall⟩:=mem_ready.1 hi
  have hlt:i<ops.size:=(Array.getElem?_eq_some_iff.1 ho).1
  have hds:∀d,o.dst=some d→d<a.tmps.size:=fun d h=>by rw [hN]; exact hdst o (by simpa using Array.mem_of_getElem? ho) d h
  have next:∀(t':Nat→AV) (f':Nat→BS) (a':Act) (c':Cx),iN P z ops n0 n K fuel (listed.setIfInBounds i true) t' f'→HOk c' f'→Stp c c'→(∀k,Rv c' (t' k) (a'.tmps.getD k undef))→a'.tmps.size=N→cg c' c0.w.heap.size a'.defers →
   (∀j,j<n→j≠n0+i→f j = .fresh→f' j = .fresh)→(∀j,n≤j→f' j = .fresh)→wpAnyIn (Fr rr) 0 P .any ops Q fuel (listed.setIfInBounds i true) a' c'.w:=by
   intro t' f' a' c' h1 h2 h3 h4 h5 h6 h7 h8
   refine ih _ t' f' a' c' h1 h2 h8 (fun j hj hun'=>?_) h4 h5 h6 (hs.trans h3) h0 hne
   have hij:i≠j:=by
    intro he; subst he
    rcases Nat.lt_or_ge i listed.size with h'|h'
    ·simp [h'] at hun'
    ·simp [Array.getElem?_eq_none h'] at hun
   rw [getD_set_ne true hij] at hun'
   exact h7 _ (by omega) (by omega) (hids j hj hun')
  have step:fo P z true (cK ops i) (dR z true ops n0 i) (n0+i) n o.op (aS t) f (fun v f' _=>iN P z ops n0 n K fuel (listed.setIfInBounds i true) (ay t o.dst v) f')→o.wpIn (Fr rr) 0 P a c.w (wpAnyIn (Fr rr) 0 P .any ops Q fuel (listed.setIfInBounds i true)) Q:=by
   intro hop
   refine iy (z:=z) (q:=true) (bq:=cK ops i) (hd:=dR z true ops n0 i) (K:=fun v f' n'=>n'=n∧iN P z ops n0 n K fuel (listed.setIfInBounds i true) (ay t o.dst v) f') ?_ hk hfr (hids i hlt hun) (fun h=>by cases h) (fun _=>by omega) (i8 ht) fun v c' r f' n' hK hk' hs' hr' hn' hold _=>?_
   ·unfold fo at hop ⊢
    cases hc:aE o.op<;>simp only [hc,jG,cond_true,Bool.cond_self] at hop ⊢
    ·split at hop
     ·exact ⟨hop.1,trivial,hop.2⟩
     ·exact hop
    ·split at hop
     ·exact ⟨hop.1,trivial,hop.2⟩
     ·exact hop
    ·split at hop
     ·exact ⟨hop.1,trivial,hop.2⟩
     ·exact hop
    ·obtain ⟨v,f',g1,g2,_⟩:=iD hop
     exact g1 _ ⟨g2.1,trivial,g2.2⟩
    ·split at hop
     ·split at hop
      ·simp only [if_true] at hop ⊢
       rcases hop with ⟨r,g1,g5⟩|⟨g1,g2⟩
       ·exact .inl ⟨r,g1,trivial,g5⟩
       ·exact .inr ⟨g1,g2.mono fun r f' _ q=>⟨trivial,q⟩⟩
      ·exact hop
     ·exact hop
    ·exact hop.elim
   ·obtain ⟨rfl,hK⟩:=hK
    exact next _ f' _ c' hK hk' hs' (dS (fun k=>(ht k).keep hs' hk.shut) hds hr') (by rw [bX]; exact hN) (by rw [bg]; exact hd.keep hs') (fun j _ hj hf=>(hold rfl).2 j hj hf) (fun j hj=>(hold rfl).2 j (by omega) (hfr j hj))
  unfold wpOpIn
  simp only [ho]
  unfold lZ at hat
  simp only [ho] at hat
  cases hg:o.guard with
  | none =>
   simp only [hg] at hat
   rw [if_pos (by simp [Region.wanted,hg])]
   exact step hat
  | some q =>
   obtain ⟨j,want⟩:=q
   simp only [hg] at hat
   split at hat
   ·rename_i d hgs
    split at hat
    ·rename_i b htd
     have hy:=gt ht hgs htd
     by_cases hb:b=want
     ·rw [if_pos (by simp [Region.wanted,hg,hy,hb])]
      exact step (hat.1 hb)
     ·rw [if_neg (by simp [Region.wanted,hg,hy,hb])]
      have hb':b = !want:=by cases b<;>cases want<;>simp_all
      exact ⟨fun _ _=>trivial,next _ f _ c (hat.2 hb') hk (Stp.refl c) (dS ht hds (dN c)) (by rw [bX]; exact hN) (by rw [bg]; exact hd) (fun _ _ _ h=>h) hfr⟩
    ·rename_i htd
     have hy:=eZ ht hgs htd
     rw [if_neg (by simp [Region.wanted,hg,hy])]
     exact ⟨fun _ _=>trivial,next _ f _ c hat hk (Stp.refl c) (dS ht hds (dN c)) (by rw [bX]; exact hN) (by rw [bg]; exact hd) (fun _ _ _ h=>h) hfr⟩
    ·exact hat.elim
   ·exact hat.elim
theorem mi {P:Program} {z:Bool} {rr:Option Nat} (hm:P.follows .mixedOrders=true) {id ne N:Nat} {ops:Array Oper} (hlex:eH z ops=true) (hdst:∀o∈ops.toList,∀d,o.dst=some d→d<N) {c0:Cx} {K:St→Prop} {Q:Exit→Act→World→Prop}
 (hQ:∀s a w,K s→nJ c0 ne N s a w→Q .normal a w) {s:St} {a:Act} {w:World} (h:cJ P z true ops s.n K 0 ops.toList s.t s.f (s.n+ops.size)) (hs:nJ c0 ne N s a w):(Code.region id ops true).wpIn (Fr rr) 0 P Q a w:=by
 obtain ⟨c,rfl,hk,hfr,ht,hN,hd,hst,h0,hne⟩:=hs
 refine wpIn_region_any hm ?_
 have hany:=lT hlex ops.toList 0 (Array.replicate ops.size false) s.t s.f (by simp) (by simp) (fun j hj=>by simp [hj]) (fun j hj _=>(hfr _).2 (by omega)) h
 rw [Array.length_toList] at hany
 exact lV (rr:=rr) rfl (n0:=s.n) (n:=s.n+ops.size) hdst (Nat.le_refl _) (fun t f a w hK hS=>hQ ⟨t,dB (s.n+ops.size) f,s.n+ops.size⟩ a w hK hS) ops.size _ s.t s.f a c.drew hany hk.drew (fun j hj=>(hfr j).2 (by omega)) (fun j hj _=>(hfr _).2 (by omega)) (fun k=>(ht k).keep (Stp.drew c) hk.shut) hN (hd.keep (Stp.drew c)) (hst.trans (Stp.drew c)) h0 (by omega)
theorem wh {P:Program} {z:Bool} {rr:Option Nat} (hm:P.follows .mixedOrders=true) {id ne N:Nat} {ops:Array Oper} (hdst:∀o∈ops.toList,∀d,o.dst=some d→d<N) {c0:Cx} {K:St→Prop} {Q:Exit→Act→World→Prop}
 (hQ:∀s a w,K s→nJ c0 ne N s a w→Q .normal a w) {s:St} {a:Act} {w:World} (h:iN P z ops s.n (s.n+ops.size) (fun t f=>K ⟨t,dB (s.n+ops.size) f,s.n+ops.size⟩) ops.size (Array.replicate ops.size false) s.t s.f) (hs:nJ c0 ne N s a w):(Code.region id ops true).wpIn (Fr rr) 0 P Q a w:=by
 obtain ⟨c,rfl,hk,hfr,ht,hN,hd,hst,h0,hne⟩:=hs
 refine wpIn_region_any hm ?_
 exact lV (rr:=rr) rfl (n0:=s.n) (n:=s.n+ops.size) hdst (Nat.le_refl _) (fun t f a w hK hS=>hQ ⟨t,dB (s.n+ops.size) f,s.n+ops.size⟩ a w hK hS) ops.size _ s.t s.f a c.drew h hk.drew (fun j hj=>(hfr j).2 (by omega)) (fun j hj _=>(hfr _).2 (by omega)) (fun k=>(ht k).keep (Stp.drew c) hk.shut) hN (hd.keep (Stp.drew c)) (hst.trans (Stp.drew c)) h0 (by omega)
def uj (ops:Array Oper) (i:Nat):Bool:=decide (i≤ops.size) && (List.range ops.size).all fun j=>decide (j<i) || (List.range j).all fun k=>((sW [] ops.toList).getD j 0).testBit k
def qG (ops:Array Oper) (i:Nat):Bool:=eH false (ops.extract 0 i) && eH true ops && uj ops i
theorem iv {ops:Array Oper} {i:Nat} (h:uj ops i=true):i≤ops.size∧∀j,j<ops.size→i≤j→∀k,k<j→((sW [] ops.toList).getD j 0).testBit k=true:=by
 unfold uj at h
 simp only [Bool.and_eq_true,decide_eq_true_eq,List.all_eq_true,List.mem_range,Bool.or_eq_true] at h
 refine ⟨h.1,fun j hj hij k hk=>?_⟩
 rcases h.2 j hj with h1|h1
 ·omega
 ·exact h1 k hk
def v_ (ops:Array Oper) (k:Nat) (listed:Array Bool):Prop:=listed.size=ops.size∧∀j,j<ops.size→listed.getD j true=decide (j<k)
theorem x_ {ops:Array Oper} {k:Nat} {listed:Array Bool} (h:v_ ops k listed) (hk:k<ops.size):v_ ops (k+1) (listed.setIfInBounds k true):=by
 refine ⟨by rw [Array.size_setIfInBounds]; exact h.1,fun j hj=>?_⟩
 by_cases e:k=j
 ·subst e
  rw [Array.getD_eq_getD_getElem?,Array.getElem?_setIfInBounds_self_of_lt (by rw [h.1]; exact hk)]
  simp
 ·rw [getD_set_ne true e,h.2 j hj]
  simp; omega
theorem bU {l:Array Bool} {j:Nat} (h:j<l.size):l.getD j true=l.getD j false:=by
 rw [Array.getD_eq_getD_getElem?,Array.getD_eq_getD_getElem?,Array.getElem?_eq_getElem h]; rfl
theorem yb {ops:Array Oper} (hlex:eH true ops=true) {k:Nat} {listed:Array Bool} (h:v_ ops k listed):lS ops listed:=by
 intro j hj o ho e he hb
 have hjs:j<ops.size:=(Array.getElem?_eq_some_iff.1 ho).1
 have hej:=(dt hlex ho).1 e he hb
 rw [←bU (by rw [h.1]; exact hjs),h.2 j hjs] at hj
 rw [←bU (by rw [h.1]; omega),h.2 e.on (by omega)]
 simp at hj ⊢; omega
theorem oY {ops:Array Oper} (hlex:eH true ops=true) {i:Nat} (hrow:uj ops i=true) {k:Nat} (hik:i≤k) {listed:Array Bool} (h:v_ ops k listed) {j:Nat} (hj:j∈Region.ready .any ops listed):j=k:=by
 obtain ⟨hun,o,ho,hall⟩:=mem_ready.1 hj
 have hjs:j<ops.size:=(Array.getElem?_eq_some_iff.1 ho).1
 rw [h.2 j hjs] at hun
 have hkj:k≤j:=by simpa using hun
 rcases Nat.lt_or_ge k j with hlt|hge
 ·have hb:=(iv hrow).2 j hjs (by omega) k hlt
  have:=eb (yb hlex h) j (fun o' ho' e he hb=>by rw [ho] at ho'; injection ho' with ho'; subst ho'; exact hall e he hb) k hb
  rw [←bU (by rw [h.1]; omega),h.2 k (by omega)] at this
  simp at this
 ·omega
theorem ub {P:Program} {rr:Option Nat} {ops:Array Oper} {i n0 ne N:Nat} {c0:Cx} {K:St→Prop} {Q:Exit→Act→World→Prop} (hlex:eH true ops=true) (hrow:uj ops i=true) (hdst:∀o∈ops.toList,∀d,o.dst=some d→d<N) (hQ:∀s a w,K s→nJ c0 ne N s a w→Q .normal a w) :
 ∀(l:List Oper) (k:Nat) (listed:Array Bool) (t:Nat→AV) (f:Nat→BS) (n:Nat) (a:Act) (c:Cx),i≤k→(∀j,l[j]?=ops[k+j]?)→v_ ops k listed→cJ P false false ops n0 K k l t f n→HOk c f→(∀j,f j = .fresh↔n≤j) →
  (∀k,Rv c (t k) (a.tmps.getD k undef))→a.tmps.size=N→cg c c0.w.heap.size a.defers→Stp c0 c→(∀j,c0.U j→j<ne)→ne≤n→wpAnyIn (Fr rr) 0 P .any ops Q l.length listed a c.w:=by
 intro l
 induction l with
 | nil =>
  intro k listed t f n a c hik hl hu h hk hfr ht hN hd hs h0 hne
  refine ⟨?_,hQ ⟨t,f,n⟩ a c.w h ⟨c,rfl,hk,hfr,ht,hN,hd,hs,h0,hne⟩⟩
  rw [List.eq_nil_iff_forall_not_mem]
  intro j hj
  have e:=oY hlex hrow hik hu hj
  subst e
  obtain ⟨_,o,ho,_⟩:=mem_ready.1 hj
  have:=hl 0
  simp only [Nat.add_zero] at this
  rw [ho] at this
  simp at this
 | cons o rest ih =>
  intro k listed t f n a c hik hl hu h hk hfr ht hN hd hs h0 hne
  have ho:ops[k]?=some o:=by have:=hl 0; simpa using this.symm
  have hks:k<ops.size:=(Array.getElem?_eq_some_iff.1 ho).1
  have hl':∀j,rest[j]?=ops[k+1+j]?:=fun j=>by have:=hl (j+1); simpa [Nat.add_assoc,Nat.add_comm 1 j] using this
  have hu':=x_ hu hks
  have hds:∀d,o.dst=some d→d<a.tmps.size:=fun d h=>by rw [hN]; exact hdst o (by simpa using Array.mem_of_getElem? ho) d h
  refine ⟨fun hr=>?_,fun j hj=>?_⟩
  ·
   exfalso
   have:k∈Region.ready .any ops listed:=by
    rw [mem_ready]
    refine ⟨by rw [hu.2 k hks]; simp,o,ho,fun e he hb=>?_⟩
    have hej:=(dt hlex ho).1 e he hb
    rw [←bU (by rw [hu.1]; omega),hu.2 e.on (by omega)]
    simp; omega
   rw [hr] at this
   cases this
  have e:=oY hlex hrow hik hu hj
  subst e
  have step:∀t',(∀k,Rv c (t' k) (a.tmps.getD k undef))→fo P false false (cK ops j) (dR false false ops n0 j) (nK false n0 j n) n o.op (aS t') f (fun v f' n'=>cJ P false false ops n0 K (j+1) rest (ay t' o.dst v) f' n') →
   o.wpIn (Fr rr) 0 P a c.w (wpAnyIn (Fr rr) 0 P .any ops Q rest.length (listed.setIfInBounds j true)) Q:=by
   intro t' ht' hop
   refine iy hop hk (fun j hj=>(hfr j).2 hj) ((hfr n).2 (Nat.le_refl _)) (fun _=>⟨rfl,hfr⟩) (fun h=>by cases h) (i8 ht') fun v c' r f' n' hK hk' hs' hr' hn' _ hnew=>?_
   exact ih (j+1) _ _ f' n' _ c' (by omega) hl' hu' hK hk' (hnew rfl) (dS (fun k=>(ht' k).keep hs' hk.shut) hds hr') (by rw [bX]; exact hN) (by rw [bg]; exact hd.keep hs') (hs.trans hs') h0 (by omega)
  unfold wpOpIn
  simp only [ho]
  simp only [cJ] at h
  split at h
  ·rename_i hg
   rw [if_pos (by simp [Region.wanted,hg])]
   exact step t ht h
  ·rename_i m want hg
   split at h
   ·rename_i d hgs
    split at h
    ·rename_i b htd
     have hy:=gt ht hgs htd
     obtain ⟨h1,h2⟩:=h
     by_cases hb:b=want
     ·have hu:=fM t d (v := .bool want) (by rw [htd,hb])
      rw [hu] at h1
      rw [if_pos (by simp [Region.wanted,hg,hy,hb])]
      exact step t ht (h1 hb)
     ·have hb':b = !want:=by cases b<;>cases want<;>simp_all
      have hu2:=fM t d (v := .bool (!want)) (by rw [htd,hb'])
      rw [hu2] at h2
      rw [if_neg (by simp [Region.wanted,hg,hy,hb])]
      exact ⟨fun _ _=>trivial,ih (j+1) _ _ f n _ c (by omega) hl' hu' (h2 hb') hk hfr (dS ht hds (dN c)) (by rw [bX]; exact hN) (by rw [bg]; exact hd) hs h0 hne⟩
    ·rename_i htd
     have hy:=eZ ht hgs htd
     rw [if_neg (by simp [Region.wanted,hg,hy])]
     exact ⟨fun _ _=>trivial,ih (j+1) _ _ f n _ c (by omega) hl' hu' h hk hfr (dS ht hds (dN c)) (by rw [bX]; exact hN) (by rw [bg]; exact hd) hs h0 hne⟩
    ·exact h.elim
   ·exact h.elim
theorem jx {ops:Array Oper} {i j:Nat} {o:Oper} (h:(ops.extract 0 i)[j]?=some o):j<i∧ops[j]?=some o:=by
 rw [Array.getElem?_extract] at h
 split at h
 ·rename_i hj; rw [Nat.zero_add] at h; exact ⟨by omega,h⟩
 ·cases h
theorem tu {ops:Array Oper} {i j:Nat} (h:j<i) (hi:i≤ops.size):(ops.extract 0 i)[j]?=ops[j]?:=by
 rw [Array.getElem?_extract,if_pos (by omega),Nat.zero_add]
def vY (ops:Array Oper) (i:Nat) (lA l:Array Bool):Prop:=lA.size=i∧l.size=ops.size∧(∀j,j<i→lA.getD j true=l.getD j true)∧(∀j,i≤j→j<ops.size→l.getD j true=false)
theorem xf {ops:Array Oper} {i j:Nat} {lA l:Array Bool} (h:vY ops i lA l) (hj:j<i):vY ops i (lA.setIfInBounds j true) (l.setIfInBounds j true):=by
 obtain ⟨h1,h2,h3,h4⟩:=h
 refine ⟨by rw [Array.size_setIfInBounds]; exact h1,by rw [Array.size_setIfInBounds]; exact h2,fun k hk=>?_,fun k hk hk2=>?_⟩
 ·by_cases e:j=k
  ·subst e
   rcases Nat.lt_or_ge j ops.size with hs|hs
   ·rw [Array.getD_eq_getD_getElem?,Array.getD_eq_getD_getElem?,Array.getElem?_setIfInBounds_self_of_lt (by omega),Array.getElem?_setIfInBounds_self_of_lt (by omega)]
   ·rw [Array.getD_eq_getD_getElem?,Array.getD_eq_getD_getElem?,Array.getElem?_setIfInBounds_self_of_lt (by omega),Array.getElem?_eq_none (by rw [Array.size_setIfInBounds]; omega)]
    rfl
  ·rw [getD_set_ne true e,getD_set_ne true e]; exact h3 k hk
 ·rw [getD_set_ne true (by omega)]; exact h4 k hk hk2
theorem xg {ops:Array Oper} {i:Nat} {lA l:Array Bool} (h:vY ops i lA l) (hi:i≤ops.size) (hs:lS (ops.extract 0 i) lA):lS ops l:=by
 obtain ⟨h1,h2,h3,h4⟩:=h
 intro j hj o ho e he hb
 have hjs:j<ops.size:=(Array.getElem?_eq_some_iff.1 ho).1
 rw [←bU (by omega)] at hj
 rcases Nat.lt_or_ge j i with hji|hji
 ·have:=hs j (by rw [←bU (by omega),h3 j hji]; exact hj) o (by rw [tu hji hi]; exact ho) e he hb
  have hlt:e.on<lA.size:=by
   rcases Nat.lt_or_ge e.on lA.size with h'|h'
   ·exact h'
   ·simp [Array.getElem?_eq_none h'] at this
  rw [←bU hlt,h3 e.on (by omega),bU (by omega)] at this
  exact this
 ·rw [h4 j hji hjs] at hj; cases hj
theorem tJ {ops:Array Oper} {i:Nat} (hrow:uj ops i=true) {lA l:Array Bool} (h:vY ops i lA l) (hs:lS (ops.extract 0 i) lA) {j:Nat} (hj:j∈Region.ready .any ops l):(j<i∧j∈Region.ready .any (ops.extract 0 i) lA)∨(i≤j∧∀k,k<i→lA.getD k true=true):=by
 have hi:=(iv hrow).1
 obtain ⟨hun,o,ho,hall⟩:=mem_ready.1 hj
 have hjs:j<ops.size:=(Array.getElem?_eq_some_iff.1 ho).1
 have hsh:=xg h hi hs
 obtain ⟨h1,h2,h3,h4⟩:=h
 rcases Nat.lt_or_ge j i with hji|hji
 ·refine .inl ⟨hji,?_⟩
  rw [mem_ready]
  refine ⟨by rw [h3 j hji]; exact hun,o,by rw [tu hji hi]; exact ho,fun e he hb=>?_⟩
  have:=hall e he hb
  have hlt:e.on<l.size:=by
   rcases Nat.lt_or_ge e.on l.size with h'|h'
   ·exact h'
   ·simp [Array.getElem?_eq_none h'] at this
  rcases Nat.lt_or_ge e.on i with he'|he'
  ·rw [←bU (by omega),h3 e.on he',bU hlt]; exact this
  ·rw [←bU hlt,h4 e.on he' (by omega)] at this; cases this
 ·refine .inr ⟨hji,fun k hk=>?_⟩
  have hb:=(iv hrow).2 j hjs hji k (by omega)
  have:=eb hsh j (fun o' ho' e he hb=>by rw [ho] at ho'; injection ho' with ho'; subst ho'; exact hall e he hb) k hb
  rw [h3 k hk,bU (by omega)]
  exact this
theorem A_ {ops:Array Oper} {l:Array Bool} {j:Nat} (hs:lS ops l) (hj:j∈Region.ready .any ops l):lS ops (l.setIfInBounds j true):=by
 obtain ⟨_,oj,hoj,hall⟩:=mem_ready.1 hj
 intro m hm o ho e he hb
 by_cases hmj:j=m
 ·subst hmj; rw [hoj] at ho; injection ho with ho; subst ho; exact getD_set_true (hall e he hb)
 ·rw [getD_set_ne false hmj] at hm; exact getD_set_true (hs m hm o ho e he hb)
theorem CC {F:Fence} {n:Nat} {P:Program} {ops:Array Oper} {Q:Exit→Act→World→Prop} {i:Nat} {K K':Act→World→Prop} {a:Act} {w:World} (h:∀a w,K a w→K' a w) (g:wpOpIn F n P ops Q i K a w):wpOpIn F n P ops Q i K' a w:=by
 unfold wpOpIn at g ⊢
 split
 ·rename_i e; rw [e] at g; exact h _ _ g
 ·rename_i o e
  rw [e] at g
  simp only at g
  split
  ·rename_i hw; rw [if_pos hw] at g; exact Oper.wpIn_mono h g
  ·rename_i hw; rw [if_neg hw] at g; exact ⟨g.1,h _ _ g.2⟩
theorem qW {F:Fence} {n:Nat} {P:Program} {md:Region.Mode} {ops:Array Oper} {Q:Exit→Act→World→Prop}:∀(m:Nat) (l:Array Bool) (a:Act) (w:World),wpAnyIn F n P md ops Q m l a w→wpAnyIn F n P md ops Q (m+1) l a w
 | 0,l,a,w,h=>⟨fun _=>h.2,fun i hi=>by rw [h.1] at hi; cases hi⟩
 | m+1,l,a,w,h=>⟨h.1,fun i hi=>CC (fun a w g=>qW m _ a w g) (h.2 i hi)⟩
theorem uJ {F:Fence} {n:Nat} {P:Program} {md:Region.Mode} {ops:Array Oper} {Q:Exit→Act→World→Prop} {m:Nat} {l:Array Bool} {a:Act} {w:World} (h:wpAnyIn F n P md ops Q m l a w):∀k,wpAnyIn F n P md ops Q (k+m) l a w
 | 0=>by rw [Nat.zero_add]; exact h
 | k+1=>by rw [show k+1+m=(k+m)+1 by omega]; exact qW _ _ _ _ (uJ h k)
theorem tV {ops:Array Oper} (hlex:∀j o,ops[j]?=some o→∀e∈o.after,Region.binds .any e=true→e.on<j) {l:Array Bool} (hl:l.size=ops.size) (h:Region.ready .any ops l=[]):∀k,k<ops.size→l.getD k true=true:=by
 intro k
 induction k using Nat.strongRecOn with
 | _ k ih =>
  intro hk
  cases hv:l.getD k true with
  | true=>rfl
  | false =>
   have ho:ops[k]?=some ops[k]:=Array.getElem?_eq_getElem hk
   have:k∈Region.ready .any ops l:=by
    rw [mem_ready]
    refine ⟨hv,_,ho,fun e he hb=>?_⟩
    have hej:=hlex k _ ho e he hb
    have:=ih e.on hej (by omega)
    rw [bU (by omega)] at this
    exact this
   rw [h] at this
   cases this
theorem xL {P:Program} {rr:Option Nat} {ops:Array Oper} {i n0 n N:Nat} {c0:Cx} {K:(Nat→AV)→(Nat→BS)→Prop} {Q:Exit→Act→World→Prop} (hlex:eH true ops=true) (hrow:uj ops i=true) (hdst:∀o∈ops.toList,∀d,o.dst=some d→d<N) (hn:n0+i≤n)
 (hend:∀(t:Nat→AV) (f:Nat→BS) (l:Array Bool) (a:Act) (c:Cx),K t f→v_ ops i l→HOk c f→(∀j,n≤j→f j = .fresh)→(∀k,Rv c (t k) (a.tmps.getD k undef))→a.tmps.size=N→cg c c0.w.heap.size a.defers→Stp c0 c→wpAnyIn (Fr rr) 0 P .any ops Q (ops.size-i) l a c.w) :
 ∀(fuel:Nat) (lA l:Array Bool) (t:Nat→AV) (f:Nat→BS) (a:Act) (c:Cx),iN P false (ops.extract 0 i) n0 n K fuel lA t f→vY ops i lA l→lS (ops.extract 0 i) lA→HOk c f→(∀j,n≤j→f j = .fresh) →
  (∀j,j<i→lA.getD j true=false→f (n0+j) = .fresh)→(∀k,Rv c (t k) (a.tmps.getD k undef))→a.tmps.size=N→cg c c0.w.heap.size a.defers→Stp c0 c→wpAnyIn (Fr rr) 0 P .any ops Q (fuel+(ops.size-i)) l a c.w:=by
 have hi:=(iv hrow).1
 have hAsz:(ops.extract 0 i).size=i:=by rw [Array.size_extract]; omega
 have hlexA:∀j o,(ops.extract 0 i)[j]?=some o→∀e∈o.after,Region.binds .any e=true→e.on<j:=fun j o ho e he hb=>(dt hlex (jx ho).2).1 e he hb
 have done:∀(fuel:Nat) (lA l:Array Bool) (t:Nat→AV) (f:Nat→BS) (a:Act) (c:Cx),Region.ready .any (ops.extract 0 i) lA=[]→K t f→vY ops i lA l→HOk c f→(∀j,n≤j→f j = .fresh)→(∀k,Rv c (t k) (a.tmps.getD k undef))→a.tmps.size=N→cg c c0.w.heap.size a.defers→Stp c0 c→wpAnyIn (Fr rr) 0 P .any ops Q (fuel+(ops.size-i)) l a c.w:=by
  intro fuel lA l t f a c hr hK hH hk hfr ht hN hd hs
  have hall:=tV hlexA (by rw [hAsz]; exact hH.1) hr
  refine uJ (hend t f l a c hK ⟨hH.2.1,fun j hj=>?_⟩ hk hfr ht hN hd hs) fuel
  rcases Nat.lt_or_ge j i with h'|h'
  ·rw [←hH.2.2.1 j h',hall j (by omega)]; simp [h']
  ·rw [hH.2.2.2 j h' hj]; simp; omega
 intro fuel
 induction fuel with
 | zero =>
  intro lA l t f a c h hH _ hk hfr _ ht hN hd hs
  exact done 0 lA l t f a c h.1 h.2 hH hk hfr ht hN hd hs
 | succ fuel ih =>
  intro lA l t f a c h hH hsh hk hfr hids ht hN hd hs
  by_cases hr:Region.ready .any (ops.extract 0 i) lA=[]
  ·exact done (fuel+1) lA l t f a c hr (h.1 hr) hH hk hfr ht hN hd hs
  rw [show fuel+1+(ops.size-i)=(fuel+(ops.size-i))+1 by omega]
  refine ⟨fun hr2=>?_,fun j hj=>?_⟩
  ·exfalso
   obtain ⟨j,hj⟩:=List.exists_mem_of_ne_nil _ hr
   obtain ⟨hun,o,ho,hall⟩:=mem_ready.1 hj
   obtain ⟨hji,ho'⟩:=jx ho
   have:j∈Region.ready .any ops l:=by
    rw [mem_ready]
    refine ⟨by rw [←hH.2.2.1 j hji]; exact hun,o,ho',fun e he hb=>?_⟩
    have hej:=hlexA j o ho e he hb
    have:=hall e he hb
    rw [←bU (by rw [hH.1]; omega),hH.2.2.1 e.on (by omega),bU (by rw [hH.2.1]; omega)] at this
    exact this
   rw [hr2] at this
   cases this
  obtain ⟨hji,hjA⟩:j<i∧j∈Region.ready .any (ops.extract 0 i) lA:=by
   rcases tJ hrow hH hsh hj with hq|⟨_,hall⟩
   ·exact hq
   ·exfalso
    obtain ⟨m,hm⟩:=List.exists_mem_of_ne_nil _ hr
    obtain ⟨hun,o,ho,_⟩:=mem_ready.1 hm
    have:=hall m (jx ho).1
    rw [hun] at this
    cases this
  have hat:=h.2 j hjA
  obtain ⟨hun,o,hoA,hall⟩:=mem_ready.1 hjA
  have ho:=(jx hoA).2
  have hds:∀d,o.dst=some d→d<a.tmps.size:=fun d h=>by rw [hN]; exact hdst o (by simpa using Array.mem_of_getElem? ho) d h
  have next:∀(t':Nat→AV) (f':Nat→BS) (a':Act) (c':Cx),iN P false (ops.extract 0 i) n0 n K fuel (lA.setIfInBounds j true) t' f'→HOk c' f'→Stp c c'→(∀k,Rv c' (t' k) (a'.tmps.getD k undef))→a'.tmps.size=N→cg c' c0.w.heap.size a'.defers →
   (∀m,m<n→m≠n0+j→f m = .fresh→f' m = .fresh)→(∀m,n≤m→f' m = .fresh)→wpAnyIn (Fr rr) 0 P .any ops Q (fuel+(ops.size-i)) (l.setIfInBounds j true) a' c'.w:=by
   intro t' f' a' c' h1 h2 h3 h4 h5 h6 h7 h8
   refine ih _ _ t' f' a' c' h1 (xf hH hji) (A_ hsh hjA) h2 h8 (fun m hm hun'=>?_) h4 h5 h6 (hs.trans h3)
   have hij:j≠m:=by
    intro he; subst he
    simp [hH.1,hm] at hun'
   rw [getD_set_ne true hij] at hun'
   exact h7 _ (by omega) (by omega) (hids m hm hun')
  have step:fo P false true (cK (ops.extract 0 i) j) (dR false true (ops.extract 0 i) n0 j) (n0+j) n o.op (aS t) f (fun v f' _=>iN P false (ops.extract 0 i) n0 n K fuel (lA.setIfInBounds j true) (ay t o.dst v) f')→o.wpIn (Fr rr) 0 P a c.w (wpAnyIn (Fr rr) 0 P .any ops Q (fuel+(ops.size-i)) (l.setIfInBounds j true)) Q:=by
   intro hop
   refine iy (z:=false) (q:=true) (bq:=cK (ops.extract 0 i) j) (hd:=dR false true (ops.extract 0 i) n0 j) (K:=fun v f' n'=>n'=n∧iN P false (ops.extract 0 i) n0 n K fuel (lA.setIfInBounds j true) (ay t o.dst v) f') ?_ hk hfr (hids j hji hun) (fun h=>by cases h) (fun _=>by omega) (i8 ht) fun v c' r f' n' hK hk' hs' hr' hn' hold _=>?_
   ·unfold fo at hop ⊢
    cases hc:aE o.op<;>simp only [hc,jG,cond_true,Bool.cond_self] at hop ⊢
    ·split at hop
     ·exact ⟨hop.1,trivial,hop.2⟩
     ·exact hop
    ·split at hop
     ·exact ⟨hop.1,trivial,hop.2⟩
     ·exact hop
    ·split at hop
     ·exact ⟨hop.1,trivial,hop.2⟩
     ·exact hop
    ·obtain ⟨v,f',g1,g2,_⟩:=iD hop
     exact g1 _ ⟨g2.1,trivial,g2.2⟩
    ·split at hop
     ·split at hop
      ·simp only [if_true] at hop ⊢
       rcases hop with ⟨r,g1,g5⟩|⟨g1,g2⟩
       ·exact .inl ⟨r,g1,trivial,g5⟩
       ·exact .inr ⟨g1,g2.mono fun r f' _ q=>⟨trivial,q⟩⟩
      ·exact hop
     ·exact hop
    ·exact hop.elim
   ·obtain ⟨rfl,hK⟩:=hK
    exact next _ f' _ c' hK hk' hs' (dS (fun k=>(ht k).keep hs' hk.shut) hds hr') (by rw [bX]; exact hN) (by rw [bg]; exact hd.keep hs') (fun m _ hm hf=>(hold rfl).2 m hm hf) (fun m hm=>(hold rfl).2 m (by omega) (hfr m hm))
  unfold wpOpIn
  simp only [ho]
  unfold lZ at hat
  simp only [hoA] at hat
  cases hg:o.guard with
  | none =>
   simp only [hg] at hat
   rw [if_pos (by simp [Region.wanted,hg])]
   exact step hat
  | some q =>
   obtain ⟨m,want⟩:=q
   simp only [hg] at hat
   split at hat
   ·rename_i d hgsA
    have hgs:dm ops m=some d:=by
     unfold dm at hgsA ⊢
     cases hm:(ops.extract 0 i)[m]? with
     | none=>rw [hm] at hgsA; cases hgsA
     | some om=>rw [hm] at hgsA; rw [(jx hm).2]; exact hgsA
    split at hat
    ·rename_i b htd
     have hy:=gt ht hgs htd
     by_cases hb:b=want
     ·rw [if_pos (by simp [Region.wanted,hg,hy,hb])]
      exact step (hat.1 hb)
     ·rw [if_neg (by simp [Region.wanted,hg,hy,hb])]
      have hb':b = !want:=by cases b<;>cases want<;>simp_all
      exact ⟨fun _ _=>trivial,next _ f _ c (hat.2 hb') hk (Stp.refl c) (dS ht hds (dN c)) (by rw [bX]; exact hN) (by rw [bg]; exact hd) (fun _ _ _ h=>h) hfr⟩
    ·rename_i htd
     have hy:=eZ ht hgs htd
     rw [if_neg (by simp [Region.wanted,hg,hy])]
     exact ⟨fun _ _=>trivial,next _ f _ c hat hk (Stp.refl c) (dS ht hds (dN c)) (by rw [bX]; exact hN) (by rw [bg]; exact hd) (fun _ _ _ h=>h) hfr⟩
    ·exact hat.elim
   ·exact hat.elim
theorem sy {P:Program} {rr:Option Nat} (hm:P.follows .mixedOrders=true) {id ne N i:Nat} {ops:Array Oper} (hok:qG ops i=true) (hdst:∀o∈ops.toList,∀d,o.dst=some d→d<N) {c0:Cx} {K:St→Prop} {Q:Exit→Act→World→Prop}
 (hQ:∀s a w,K s→nJ c0 ne N s a w→Q .normal a w) {s:St} {a:Act} {w:World} (h:cJ P false true (ops.extract 0 i) s.n (fun s'=>cJ P false false ops 0 K i (ops.toList.drop i) s'.t s'.f s'.n) 0 (ops.toList.take i) s.t s.f (s.n+i)) (hs:nJ c0 ne N s a w):(Code.region id ops true).wpIn (Fr rr) 0 P Q a w:=by
 unfold qG at hok
 simp only [Bool.and_eq_true] at hok
 obtain ⟨⟨hlA,hlex⟩,hrow⟩:=hok
 have hi:=(iv hrow).1
 have hAsz:(ops.extract 0 i).size=i:=by rw [Array.size_extract]; omega
 obtain ⟨c,rfl,hk,hfr,ht,hN,hd,hst,h0,hne⟩:=hs
 refine wpIn_region_any hm ?_
 have hany:=lT hlA (ops.toList.take i) 0 (Array.replicate i false) s.t s.f (fun j=>by
  rw [Nat.zero_add]
  rcases Nat.lt_or_ge j i with h'|h'
  ·rw [tu h' hi,List.getElem?_take_of_lt h']; simp
  ·rw [List.getElem?_take_eq_none h',Array.getElem?_eq_none (by omega)]) (by simp [hAsz]) (fun j hj=>by rw [hAsz] at hj; simp [hj]) (fun j hj _=>(hfr _).2 (by omega)) h
 rw [show (ops.toList.take i).length=i by rw [List.length_take]; simp; omega] at hany
 have:=xL (rr:=rr) (Q:=Q) (N:=N) (c0:=c0) hlex hrow hdst (Nat.le_refl _) (fun t f l a c hK hu hk hfr ht hN hd hs=>by
  have:=ub (rr:=rr) hlex hrow hdst hQ (ops.toList.drop i) i l t _ _ a (c.past (s.n+i)) (Nat.le_refl _) (fun j=>by rw [List.getElem?_drop]; simp) hu hK (hk.past hfr) (gR hfr) (fun k=>(ht k).keep (Stp.past c _) hk.shut) hN (hd.keep (Stp.past c _)) (hs.trans (Stp.past c _)) h0 (show ne≤s.n+i by omega)
  rw [show (ops.toList.drop i).length=ops.size-i by simp] at this
  exact this) i (Array.replicate i false) (Array.replicate ops.size false) s.t s.f a c.drew hany ⟨by simp,by simp,fun j hj=>by simp [hj,show j<ops.size by omega],fun j hj hj2=>by simp [hj2]⟩ (fun j hj=>by rw [Array.getD_eq_getD_getElem?,Array.getElem?_replicate] at hj; split at hj<;>simp at hj) hk.drew (fun j hj=>(hfr j).2 (by omega)) (fun j hj _=>(hfr _).2 (by omega)) (fun k=>(ht k).keep (Stp.drew c) hk.shut) hN (hd.keep (Stp.drew c)) (hst.trans (Stp.drew c))
 rw [show i+(ops.size-i)=ops.size by omega] at this
 exact this
inductive AEx where
 | normal
 | exit (id:Nat)
 | ret
mutual
def dQ (n:Nat):AV→Bool
 | .own _ id _ _=>decide (id<n)
 | .ptr id _ _=>decide (id<n)
 | .agg cs=>cloTL n cs
 | .tup cs=>cloTL n cs
 | .sl _ _ l=>cloTL n l
 | .rp cs=>cloTL n cs
 | .fn _ fs cap=>cloTL n fs && cloTL n cap
 | .yld id=>decide (id<n)
 | .mp id=>decide (id<n)
 | _=>true
def cloTL (n:Nat):List AV→Bool
 | []=>true
 | a::l=>dQ n a && cloTL n l
end
mutual
theorem q9 {n:Nat}:∀a:AV,dQ n a=true→clo n a
 | .own _ id _ _,h=>by simpa [dQ,clo] using h
 | .ptr id _ _,h=>by simpa [dQ,clo] using h
 | .agg cs,h=>by simp only [clo]; exact cloTL_clo cs (by simpa only [dQ] using h)
 | .tup cs,h=>by simp only [clo]; exact cloTL_clo cs (by simpa only [dQ] using h)
 | .sl _ _ l,h=>by simp only [clo]; exact cloTL_clo l (by simpa only [dQ] using h)
 | .rp cs,h=>by simp only [clo]; exact cloTL_clo cs (by simpa only [dQ] using h)
 | .fn _ fs cap,h=>by
  simp only [dQ,Bool.and_eq_true] at h
  simp only [clo]; exact ⟨cloTL_clo fs h.1,cloTL_clo cap h.2⟩
 | .yld id,h=>by simpa [dQ,clo] using h
 | .mp id,h=>by simpa [dQ,clo] using h
 | .any,_=>by simp only [clo]
 | .bool _,_=>by simp only [clo]
 | .int _ _,_=>by simp only [clo]
 | .str _,_=>by simp only [clo]
 | .nilp,_=>by simp only [clo]
theorem cloTL_clo {n:Nat}:∀l:List AV,cloTL n l=true→cloL n l
 | [],_=>by simp only [cloL]
 | a::l,h=>by
  simp only [cloTL,Bool.and_eq_true] at h
  simp only [cloL]; exact ⟨q9 a h.1,cloTL_clo l h.2⟩
end
def cl (n:Nat) (a:AV):AV:=bif dQ n a then a else .any
def cut (n:Nat) (t:Nat→AV):Nat→AV:=fun k=>cl n (t k)
theorem D4 (n:Nat) (a:AV):clo n (cl n a):=by
 unfold cl
 cases h:dQ n a with
 | true=>exact q9 a h
 | false=>simp only [cond_false,clo]
theorem Hj {c:Cx} {n:Nat} {a:AV} {v:Value} (h:Rv c a v):Rv c (cl n a) v:=by
 unfold cl
 cases dQ n a with
 | true=>exact h
 | false=>simp only [cond_false,Rv]
def dk (r:Loop):Loop:={ r with state := .busy }
def aV (r:Loop):AEx→Loop
 | .normal=>r
 | .ret=>{ r with state := .done,pending:=some .ret }
 | .exit i=>{ r with state := .done,pending:=some (.exit i) }
def AEx.goes:AEx→Bool
 | .normal=>true
 | _=>false
def qp (t:Nat→AV):List Nat→List AV→Nat→AV
 | p::ps,v::vs=>qp (ap t p v) ps vs
 | _,_=>t
def sY (P:Program) (g:FuncId):Prop:=∃fn c,P.funcs[g]?=some fn∧fn.body=some c∧(fn.name == "runtime.NumGoroutine")=false
def lR (P:Program) (nr len:Nat) (t:Nat→AV) (r:Loop) (wpA wpB:Nat→(AEx→St→Prop)→St→Prop) (ps:List Nat):Prop :=
 ∀(vs:List AV) (f:Nat→BS) (n:Nat) (K:AV→(Nat→BS)→Nat→Prop),vs.length=len→f nr = .obj (.loop r) t→nr<n →
  wpA n (fun e s1=>e = .normal∧s1.f nr = .obj (.loop r) t ∧
   wpB n (fun e s2=>s2.f nr = .obj (.loop (dk r)) t∧K (.bool e.goes) (ap s2.f nr (.obj (.loop (aV r e)) t)) s2.n) ⟨s1.t,ap s1.f nr (.obj (.loop (dk r)) t),s1.n⟩) ⟨qp t ps vs,f,n⟩→YA P nr vs f n K
def fO (P : Program) (z : Bool) (ne : Nat) : Code → (AEx → St → Prop) → St → Prop
  | .skip, Q, s => Q .normal s
  | .label _, Q, s => Q .normal s
  | .region _ ops draw, Q, s => bif draw && z then (eH (!eH false ops) ops = true ∧ cJ P (!eH false ops) true ops s.n (Q .normal) 0 ops.toList s.t s.f (s.n + ops.size)) ∨ ((∀ j, s.n ≤ j → s.f j = .fresh) → iN P false ops s.n (s.n + ops.size) (fun t f => Q .normal ⟨t, dB (s.n + ops.size) f, s.n + ops.size⟩) ops.size (Array.replicate ops.size false) s.t s.f) ∨
        ∃ i, qG ops i = true ∧ cJ P false true (ops.extract 0 i) s.n (fun s' => cJ P false false ops 0 (Q .normal) i (ops.toList.drop i) s'.t s'.f s'.n) 0 (ops.toList.take i) s.t s.f (s.n + i)
      else cJ P false draw ops s.n (Q .normal) 0 ops.toList s.t s.f (bif draw then s.n + ops.size else s.n)
  | .seq a b, Q, s => fO P z ne a (fun e s' => match e with | .normal => fO P z ne b Q s' | e => Q e s') s
  | .cond c x y, Q, s => match aS s.t c with
    | .bool b => (b = true → fO P z ne x Q s) ∧ (b = false → fO P z ne y Q s)
    | _ => False
  | .block id c, Q, s => fO P z ne c (fun e s' => match e with | .exit i => if i = id then Q .normal s' else Q (.exit i) s' | e => Q e s') s
  | .loop c, Q, s => ∃ (α : Type) (st : α → St) (m : α → Nat) (x0 : α), le ne s (st x0) ∧ ∀ x, fO P z ne c (fun e s' => match e with | .normal => ∃ y, le ne s' (st y) ∧ m y < m x | e => Q e s') (st x)
  | .scope c, Q, s => fO P z ne c Q s
  | .exit id, Q, s => Q (.exit id) s
  | .ret, Q, s => Q .ret s
  | .rangeFunc g ps assign body, Q, s => match aS s.t g with
    | .fn (.func gf) fs cap => sY P gf ∧ ∀ r : Loop, lR P s.n ps.size (cut s.n s.t) r (fun n => fO P z n assign) (fun n => fO P z n body) ps.toList →
        CA P gf (fs ++ [.yld s.n] ++ cap) (ap s.f s.n (.obj (.loop r) (cut s.n s.t))) (s.n + 1) fun _ f' n' => ∃ e, f' s.n = .obj (.loop (aV r e)) (cut s.n s.t) ∧ Q e ⟨s.t, ap f' s.n .dead, n'⟩
    | _ => False
  | _, _, _ => False
def a9 (rr z:Bool) (N:Nat):Code→Bool
 | .region _ ops draw=>(ops.toList.all fun o=>match o.dst with|some d=>decide (d<N)|none=>true) && (!draw || z || eH z ops)
 | .seq a b=>a9 rr z N a && a9 rr z N b
 | .cond _ a b=>a9 rr z N a && a9 rr z N b
 | .block _ a=>a9 rr z N a
 | .loop a=>a9 rr z N a
 | .scope a=>a9 rr z N a
 | .rangeFunc _ ps a b => !rr && (ps.toList.all fun p=>decide (p<N)) && a9 true z N a && a9 true z N b
 | _=>true
def fU (z:Bool) (N:Nat) (c:Code):Bool:=a9 false z N c
def QR (c0:Cx) (ne N:Nat) (Q:AEx→St→Prop):Exit→Act→World→Prop
 | .normal,a,w=>∃s,Q .normal s∧nJ c0 ne N s a w
 | .exit i,a,w=>∃s,Q (.exit i) s∧nJ c0 ne N s a w
 | .ret,a,w=>∃s,Q .ret s∧nJ c0 ne N s a w
 | _,_,_=>False
theorem nX {F:Fence} {n:Nat} {P:Program} {c:Code} {Q:Exit→Act→World→Prop} {a:Act} {w:World} {α:Type} (I:α→Act→World→Prop) (μ:α→Nat) (x0:α) (h₀:I x0 a w)
 (round:∀x a w,I x a w→c.wpIn F n P (Exit.then (fun a' w'=>∃y,I y a' w'∧μ y<μ x) Q) a w):(Code.loop c).wpIn F n P Q a w:=by
 intro b k cs hro hb hr
 have key:∀j x a w,μ x=j→I x a w →
  ∃e a' w',Q e a' w'∧ArrivesIn (Machine.fenced P F) P (lone (b.atR a (.code c :: .inLoop c::k)) cs w) b k cs e a' w':=by
  intro j
  induction j using Nat.strongRecOn with
  | _ j ih =>
   intro x a w hn hI
   obtain ⟨e,a₁,w₁,hq,harr⟩:=round x a w hI b (.inLoop c::k) cs hro hb hr
   cases e with
   | normal =>
    obtain ⟨y,hI₁,hlt⟩:=hq
    obtain ⟨e₂,a₂,w₂,hq₂,harr₂⟩:=ih (μ y) (hn▸hlt) y a₁ w₁ rfl hI₁
    exact ⟨e₂,a₂,w₂,hq₂,.of_steps (StepsIn.trans harr (.one (fenced_calm hb hr rfl) stepR_inLoop)) harr₂⟩
   | exit id=>exact ⟨_,a₁,w₁,hq,.pass (x := .inLoop c) rfl (fun _ _ => .inl (by simp)) harr⟩
   | goto l=>exact ⟨_,a₁,w₁,hq,.pass (x := .inLoop c) rfl (fun _ _ => .inl (by simp)) harr⟩
   | ret=>exact ⟨_,a₁,w₁,hq,.pass (x := .inLoop c) rfl (fun _ _ => .inl (by simp)) harr⟩
   | panic ch=>exact ⟨_,a₁,w₁,hq,.pass (x := .inLoop c) rfl (fun _ _ => .inl (by simp)) harr⟩
   | outgrown=>exact ⟨_,a₁,w₁,hq,.pass (x := .inLoop c) rfl (fun _ _ => .inl (by simp)) harr⟩
 obtain ⟨e,a',w',hq,harr⟩:=key _ x0 a w rfl h₀
 exact ⟨e,a',w',hq,.of_steps (.one (fenced_calm hb hr rfl) stepR_loop) harr⟩
theorem vG {c:Cx}:∀(ps:List Nat) (vs:List AV) (us:List Value) (t:Nat→AV) (tmps:Array Value),Rl c vs us→(∀p∈ps,p<tmps.size)→(∀k,Rv c (t k) (tmps.getD k undef)) →
 (∀k,Rv c (qp t ps vs k) (((ps.zip us).foldl (fun tmps (p:Nat×Value)=>tmps.setIfInBounds p.1 p.2) tmps).getD k undef))∧((ps.zip us).foldl (fun tmps (p:Nat×Value)=>tmps.setIfInBounds p.1 p.2) tmps).size=tmps.size
 | [],vs,us,t,tmps,_,_,h=>by cases vs<;>exact ⟨by simpa [qp] using h,rfl⟩
 | p::ps,[],us,t,tmps,hl,_,h=>by
  simp only [Rl] at hl; subst hl
  exact ⟨by simpa [qp] using h,rfl⟩
 | p::ps,v::vs,us,t,tmps,hl,hp,h=>by
  simp only [Rl] at hl
  obtain ⟨u,r,rfl,h1,h2⟩:=hl
  have hlt:=hp p (by simp)
  have:=vG ps vs r (ap t p v) (tmps.setIfInBounds p u) h2 (fun q hq=>by simpa using hp q (by simp [hq])) (fun k=>by
   by_cases hk:k=p
   ·subst hk; rw [ag]; simpa [Array.getElem?_setIfInBounds,hlt] using h1
   ·rw [af _ _ _ hk]
    have:=h k
    simpa [Array.getElem?_setIfInBounds_ne (Ne.symm hk)] using this)
  exact ⟨by simpa only [qp,List.zip_cons_cons,List.foldl_cons] using this.1,by simpa only [List.zip_cons_cons,List.foldl_cons,Array.size_setIfInBounds] using this.2⟩
open Go
set_option linter.unusedSimpArgs false
set_option linter.unusedVariables false
theorem BM (l:Nat):Fr (some l)=Fence.wide.inRound l:=rfl
theorem BL:Fr none=Fence.wide:=rfl
def Fz (P:Program) (z:Bool) (c:Code):Prop :=
 ∀(rr:Option Nat) (c0:Cx) (ne N:Nat) (Q:AEx→St→Prop) (s:St) (a:Act) (w:World),a9 rr.isSome z N c=true→fO P z ne c Q s→nJ c0 ne N s a w→c.wpIn (Fr rr) 0 P (QR c0 ne N Q) a w
theorem xH (c:Cx) (o:Obj):Stp c { c with w:=c.w.alloc o } where
 os:=rfl
 tape:=rfl
 output:=rfl
 size:=by simp
 keep:=fun b hb _=>Go.RowKit.Below.heap_alloc _ _ _ hb
 U:=fun _ h=>h
 mu:=fun _ _ => .inl rfl
 new:=fun id e h hr => .inr ⟨id,e,h,hr,rfl⟩
 F:=fun _ _=>⟨fun h=>h,fun _ h=>h⟩
theorem uV {c:Cx} {f:Nat→BS} {n:Nat} (hk:HOk c f) (hfull:∀j,f j = .fresh↔n≤j):∀j,c.U j→j<n:=fun j hj=>by
 rcases Nat.lt_or_ge j n with h|h
 ·exact h
 ·exact absurd ((hfull j).2 h) ((hk.used j).1 hj)
theorem nF {f:Nat→BS} {n id:Nat} {b:BS} (hb:b ≠ .fresh) (hid:id<n) (hfull:∀j,f j = .fresh↔n≤j):∀j,ap f id b j = .fresh↔n≤j:=fun j=>by
 by_cases hj:j=id
 ·subst hj; rw [ag]; exact ⟨fun h=>absurd h hb,fun h=>by omega⟩
 ·rw [af _ _ _ hj]; exact hfull j
theorem sr {P:Program} {z:Bool} {assign body:Code} (ia:Fz P z assign) (ib:Fz P z body) {N:Nat} (oka:a9 true z N assign=true) (okb:a9 true z N body=true) {nr:Nat} {t:Nat→AV} {r:Loop} {ps:Array Tmp} (hps:∀p∈ps.toList,p<N)
 (h1:r.state = .ready) (h2:r.pending=none) (h3:r.tmps.size=N) (h4:r.params=ps) (h5:r.assign=assign) (h6:r.body=body):lR P nr ps.size t r (fun n=>fO P z n assign) (fun n=>fO P z n body) ps.toList:=by
 intro vs f n K hlen hf hlt h c us l hk hfull hl hU hmu
 obtain ⟨e,oo,he,hr,hsz,hb,hS,hobj,htm,hcl⟩:=hk.obj nr _ _ hf
 simp only [jn] at hS; subst hS
 obtain ⟨_,rfl⟩:=hmu e he
 have hul:=hl.length
 have hy:=run_yield (P:=P) (args:=us.toArray) hobj (by rw [h4]; simp [hul,hlen])
 refine ⟨_,_,_,_,hy,?_⟩
 rw [h4,h5,h6]
 have hput:=vG ps.toList vs us t r.tmps hl (fun p hp=>by rw [h3]; exact hps p hp) (fun k=>by simpa [ea] using htm k)
 have hfold:(ps.zip us.toArray).foldl (fun tmps (x:Nat×Value)=>tmps.setIfInBounds x.1 x.2) r.tmps=(ps.toList.zip us).foldl (fun tmps (p:Nat×Value)=>tmps.setIfInBounds p.1 p.2) r.tmps:=by
  rw [←Array.foldl_toList,Array.toList_zip]
 have hsat:nJ c n N ⟨qp t ps.toList vs,f,n⟩ { tmps:=(ps.zip us.toArray).foldl (fun tmps (x:Nat×Value)=>tmps.setIfInBounds x.1 x.2) r.tmps,defers:=[] } c.w:=by
  rw [hfold]
  exact ⟨c,rfl,hk,hfull,hput.1,by simp only; rw [hput.2]; exact h3,trivial,Stp.refl c,uV hk hfull,Nat.le_refl _⟩
 refine roundIn_of_wpIn (F:=Fence.wide) trivial ?_
 rw [←BM]
 refine wpIn_mono (ia (some e.block) c n N _ _ _ _ oka h hsat) fun x a1 w1 hq=>?_
 have only:∀ {x:AEx} {s1:St} {p:Prop},x = .normal∧p→x = .normal:=fun h=>h.1
 cases x<;>simp only [QR] at hq<;>simp only [Exit.then]
 case exit i=>obtain ⟨s1,⟨h,_⟩,_⟩:=hq; cases h
 case ret=>obtain ⟨s1,⟨h,_⟩,_⟩:=hq; cases h
 obtain ⟨s1,⟨_,hf1,hbody⟩,c1,rfl,hk1,hfull1,ht1,hN1,hd1,hs1,h01,hne1⟩:=hq
 obtain ⟨e1,oo1,he1,hr1,_,_,hS1,hobj1,htm1,_⟩:=hk1.obj nr _ _ hf1
 simp only [jn] at hS1; subst hS1
 have hee:e1=e:=by
  rcases hs1.mu nr hU with h|h
  ·rw [h,he] at he1; exact (Option.some.inj he1).symm
  ·rw [h] at he1; cases he1
 subst hee
 obtain ⟨hk2,hs2⟩:=jI hk1 hf1 he1 hr1 (.loop (dk r)) t (by simpa [ea,dk] using htm1) hcl
 refine ⟨_,run_beginRound hobj1 h1,?_⟩
 have hsat2:nJ c n N ⟨s1.t,ap s1.f nr (.obj (.loop (dk r)) t),s1.n⟩ a1 (c1.w.putObj e1.block (.loop { r with state := .busy })):=by
  refine ⟨c1.obj e1.block (.loop (dk r)),rfl,hk2,nF (n:=s1.n) (by simp) (by omega) hfull1,fun k=>(ht1 k).keep hs2 hk1.shut,hN1,hd1.keep hs2,hs1.trans hs2,h01,hne1⟩
 refine wpIn_mono (ib (some e1.block) c n N _ _ _ _ okb hbody hsat2) fun x a2 w2 hq=>?_
 have fin:∀(ex:AEx) (jump:Option Code) (s2:St),(s2.f nr = .obj (.loop (dk r)) t∧K (.bool ex.goes) (ap s2.f nr (.obj (.loop (aV r ex)) t)) s2.n)→nJ c n N s2 a2 w2 →
  (aV r ex={ dk r with state:=if jump.isNone then .ready else .done,pending:=jump })→jump.isNone=ex.goes →
  ∃v w',(Instr.endRound e1.block jump).run P w2 = .ok v w'∧∃v',Ending.returned v = .returned v'∧∃c' r' f' n',c'.w=w'∧K r' f' n'∧HOk c' f'∧Rv c' r' v'∧Stp c c'∧n≤n'∧∀j,f' j = .fresh↔n'≤j:=by
  rintro ex jump s2 ⟨hf2,hK⟩ ⟨c2,rfl,hk2',hfull2,ht2,hN2,hd2,hs2',h02,hne2⟩ haft hgo
  obtain ⟨e2,oo2,he2,hr2,_,_,hS2,hobj2,htm2,_⟩:=hk2'.obj nr _ _ hf2
  simp only [jn] at hS2; subst hS2
  have hee:e2=e1:=by
   rcases hs2'.mu nr hU with h|h
   ·rw [h,he] at he2; exact (Option.some.inj he2).symm
   ·rw [h] at he2; cases he2
  subst hee
  obtain ⟨hk3,hs3⟩:=jI hk2' hf2 he2 hr2 (.loop (aV r ex)) t (by
   have:(aV r ex).tmps=r.tmps:=by cases ex<;>rfl
   simpa [ea,dk,this] using htm2) hcl
  refine ⟨_,_,run_endRound jump hobj2,_,rfl,c2.obj e2.block (.loop (aV r ex)),_,_,s2.n,?_,hK,hk3,?_,hs2'.trans hs3,hne2,nF (n:=s2.n) (by simp) (by omega) hfull2⟩
  ·rw [haft]; rfl
  ·rw [hgo]; simp only [Rv]
 cases x<;>simp only [QR] at hq<;>simp only [roundPost]
 case normal =>
  obtain ⟨s2,g1,g2⟩:=hq
  exact fin .normal none s2 g1 g2 (by
   obtain ⟨a,b⟩:r.state = .ready∧r.pending=none:=⟨h1,h2⟩
   cases r; simp only [aV,dk] at *; subst a; subst b; rfl) rfl
 case ret=>obtain ⟨s2,g1,g2⟩:=hq; exact fin .ret (some .ret) s2 g1 g2 rfl rfl
 case exit i=>obtain ⟨s2,g1,g2⟩:=hq; exact fin (.exit i) (some (.exit i)) s2 g1 g2 rfl rfl
theorem r8 {P:Program} {z:Bool} {assign body:Code} (ia:Fz P z assign) (ib:Fz P z body) (g:Operand) (ps:Array Tmp):Fz P z (.rangeFunc g ps assign body):=by
 intro rr c0 ne N Q s a w hok h hs
 simp only [a9,Bool.and_eq_true,Bool.not_eq_true',List.all_eq_true] at hok
 obtain ⟨⟨⟨hro,hps⟩,oka⟩,okb⟩:=hok
 have hrr:rr=none:=by cases rr<;>simp_all
 subst hrr
 simp only [fO] at h
 split at h
 ·rename_i gf fs cap hg
  obtain ⟨⟨fn0,c00,hf0,hb0,hn0⟩,h⟩:=h
  obtain ⟨c,rfl,hk,hfull,ht,hN,hd,hst,h0,hne⟩:=hs
  have hev:=i8 ht g
  rw [hg] at hev
  simp only [Rv] at hev
  obtain ⟨fa,ca,hev,hfa,hca⟩:=hev
  refine wpIn_rangeFunc fun fnn _=>?_
  obtain ⟨r,hr⟩:∃r:Loop,r={ state := .ready,pending:=none,fn:=fnn,tmps:=a.tmps,params:=ps,assign,body,defers:=c.w.heap.size }:=⟨_,rfl⟩
  have hs1:Stp c { c with w:=c.w.alloc (.deferred (some [])) }:=xH c _
  have hk1:HOk { c with w:=c.w.alloc (.deferred (some [])) } s.f:=hk.of_step hs1 (fun _=>Iff.rfl) rfl hk.shut (fun id e he hr=>Go.RowKit.Below.heap_alloc _ _ _ (hk.lt he hr))
  have hfresh:s.f s.n = .fresh:=(hfull s.n).2 (Nat.le_refl _)
  have hk2:=qh hk1 hfresh (.loop r) (cut s.n s.t) (fun k=>by rw [hr]; exact Hj ((ht k).keep hs1 hk.shut)) (fun k=>D4 _ _)
  have hs2:=Stp.more hk1 hfresh (.loop r) 0 0
  obtain ⟨c2,hc2⟩:∃c2,c2=Cx.more { c with w:=c.w.alloc (.deferred (some [])) } s.n (.loop r) ⟨true,(c.w.alloc (.deferred (some []))).heap.size,0,0,0⟩:=⟨_,rfl⟩
  rw [←hc2] at hk2 hs2
  have hst2:Stp c c2:=hs1.trans hs2
  have hw2:c2.w=(c.w.alloc (.deferred (some []))).alloc (.loop r):=by rw [hc2]; rfl
  have hmu2:c2.mu s.n=some ⟨true,c.w.heap.size+1,0,0,0⟩:=by
   rw [hc2]
   have:(c.w.alloc (.deferred (some []))).heap.size=c.w.heap.size+1:=by simp
   simp only [Cx.more,ag,this]
  have hU2:c2.U s.n:=by rw [hc2]; exact .inr rfl
  have hD2:c2.w.heap[c.w.heap.size]?=some (.deferred (some [])):=by
   rw [hw2]; exact (Go.RowKit.Below.heap_alloc _ _ _ (by simp)).trans (World.alloc_heap_new c.w _)
  have hDown:∀id e,c2.mu id=some e→e.real=true→e.block≠c.w.heap.size:=by
   intro id e he hre hb
   rcases hst2.new id e he hre with h1|⟨j,e',hj,hr',hb'⟩
   ·by_cases hid:id=s.n
    ·subst hid; rw [hmu2] at he; injection he with he; subst he; simp at hb
    ·have:c.mu id=some e:=by
      rw [hc2] at he
      simp only [Cx.more] at he
      rwa [af _ _ _ hid] at he
     have:=hk.lt this hre
     omega
   ·have:=hk.lt hj hr'; omega
  have hmarks:cg c2 c0.w.heap.size ({ target := .collected c.w.heap.size,args := #[] }::a.defers):=by
   refine ⟨⟨c.w.heap.size,rfl,hst.size,hD2,hDown⟩,fun hmem=>?_,hd.keep hst2⟩
   have:∀(ds:List Deferred),cg c c0.w.heap.size ds→({ target := .collected c.w.heap.size,args := #[] }:Deferred) ∉ ds:=by
    intro ds
    induction ds with
    | nil=>intro _ h; cases h
    | cons d ds ih =>
     rintro ⟨⟨D,hD,_,h3,_⟩,_,h6⟩ hm
     rcases List.mem_cons.1 hm with h7|h7
     ·rw [hD] at h7
      have h8:c.w.heap.size=D:=by injection h7 with h7 _; injection h7
      have:=(Array.getElem?_eq_some_iff.1 h3).1
      omega
     ·exact ih h6 h7
   exact this _ hd hmem
  have hround:lR P s.n ps.size (cut s.n s.t) r (fun n=>fO P z n assign) (fun n=>fO P z n body) ps.toList :=
   sr ia ib oka okb (fun p hp=>by simpa using hps p hp) (by rw [hr]) (by rw [hr]) (by rw [hr]; exact hN) (by rw [hr]) (by rw [hr]) (by rw [hr])
  have hca2:=h r hround
  have hfull2:∀j,ap s.f s.n (.obj (.loop r) (cut s.n s.t)) j = .fresh↔s.n+1≤j:=by
   intro j
   by_cases hj:j=s.n
   ·subst hj; rw [ag]; simp
   ·rw [af _ _ _ hj,hfull j]; omega
  have hargs:Rl c2 (fs++[.yld s.n]++cap) (fa.toList++[Value.func (.yield (c.w.heap.size+1)) #[] #[]]++ca.toList):=by
   refine Rl.append (Rl.append (hfa.keep hst2 hk.shut) ?_) (hca.keep hst2 hk.shut)
   simp only [Rl,Rv]
   exact ⟨_,_,rfl,⟨hU2,_,rfl,fun e he=>by rw [hmu2] at he; injection he with he; subst he; exact ⟨rfl,rfl⟩⟩,rfl⟩
  have hcall:=hca2 c2 _ hk2 hfull2 hargs
  have henter:∀args w,(callFunc gf args).run P w = .ok (.enter gf args) w:=fun args w=>by
   unfold callFunc
   simp only [Sem.run_bind,run_program,Result.andThen_ok,hf0,hn0,Bool.false_eq_true,if_false,hb0,Option.isNone_some,Sem.run_pure]
  unfold bD at hcall
  rw [henter] at hcall
  simp only at hcall
  refine ⟨c.w.heap.size+1,[{ target := .collected c.w.heap.size,args := #[] }],c2.w,{ target := .fn (.func gf) ca,args:=fa ++ #[Value.func (.yield (c.w.heap.size+1)) #[] #[]] },c2.w,gf,
   fa ++ #[Value.func (.yield (c.w.heap.size+1)) #[] #[]]++ca,c2.w,?_,?_,fun _ _=>trivial,?_,mv,?_⟩
  ·rw [hw2,hr]; exact run_enterLoop_outer _ _ _ _ _
  ·simp only [resolve,rangeCall,Sem.run_bind,hev,Deferred.ofValue,Sem.run_pure,Result.andThen_ok]
   simp [Act.eval]
  ·simp only [invoke]; exact henter _ _
  ·have harr:(fa.toList++[Value.func (.yield (c.w.heap.size+1)) #[] #[]]++ca.toList).toArray=fa ++ #[Value.func (.yield (c.w.heap.size+1)) #[] #[]]++ca:=by
    apply Array.ext'; simp
   rw [harr] at hcall
   refine l7 (hcall.mono ?_)
   rintro ex w' ⟨v,rfl,c3,r3,f3,n3,rfl,⟨ex,hf3,hQ⟩,hk3,_,hs3,hn3,hfull3⟩
   obtain ⟨e3,oo3,he3,hr3,_,_,hS3,hobj3,htm3,hcl3⟩:=hk3.obj s.n _ _ hf3
   simp only [jn] at hS3; subst hS3
   have hee:e3=⟨true,c.w.heap.size+1,0,0,0⟩:=by
    rcases hs3.mu s.n hU2 with h|h
    ·rw [h,hmu2] at he3; exact (Option.some.inj he3).symm
    ·rw [h] at he3; cases he3
   subst hee
   have hready:(aV r ex).state ≠ .busy:=by cases ex<;>simp [aV,hr]
   obtain ⟨hk4,hs4⟩:=jI hk3 hf3 he3 hr3 (.loop { aV r ex with state := .exhausted }) (cut s.n s.t) (by simpa [ea] using htm3) hcl3
   have hk5:=hk4.kill (id:=s.n) (by rw [ag]; simp)
   have hupd:ap (ap f3 s.n (.obj (.loop { aV r ex with state := .exhausted }) (cut s.n s.t))) s.n .dead=ap f3 s.n .dead:=by
    funext j; unfold ap; split<;>rfl
   rw [hupd] at hk5
   have hs5:=Stp.kill (c3.obj (c.w.heap.size+1) (.loop { aV r ex with state := .exhausted })) s.n
   have hs6:=(hs3.trans hs4).trans hs5
   have hsat:nJ c0 ne N ⟨s.t,ap f3 s.n .dead,n3⟩ { a with defers:=[{ target := .collected c.w.heap.size,args := #[] }]++a.defers } (c3.w.putObj (c.w.heap.size+1) (.loop { aV r ex with state := .exhausted })):=by
    refine ⟨_,rfl,hk5,nF (n:=n3) (by simp) (by omega) hfull3,fun k=>(ht k).keep (hst2.trans hs6) hk.shut,hN,hmarks.keep hs6,hst.trans (hst2.trans hs6),h0,by simp only; omega⟩
   have hend:=run_endLoop (P:=P) hobj3 hready
   have hj:∀(j:Option Code),(aV r ex).pending=j→(Instr.endLoop (c.w.heap.size+1)).run P c3.w = .ok j (c3.w.putObj (c.w.heap.size+1) (.loop { aV r ex with state := .exhausted })):=fun j hj=>by rw [←hj]; exact hend
   cases ex with
   | normal=>exact ⟨none,_,hj none (by simp [aV,hr]),⟨_,hQ,hsat⟩⟩
   | ret=>exact ⟨some .ret,_,hj _ rfl,wpIn_ret ⟨_,hQ,hsat⟩⟩
   | exit i=>exact ⟨some (.exit i),_,hj _ rfl,wpIn_exit ⟨_,hQ,hsat⟩⟩
 ·exact h.elim
theorem cW {P:Program} {b:Frame} {a:Act} {k:List Item} {cs:List Frame} {w:World} {c:Code}:step P (lone (b.atR a (.code (.scope c)::k)) cs w) = .next (lone (b.atR a (.code c :: .inScope c::k)) cs w) :=
 step_lone_go (by simp [stepG,stepG.exec,Frame.atR])
theorem nU {P:Program} {b:Frame} {a:Act} {k:List Item} {cs:List Frame} {w:World} {c:Code}:step P (lone (b.atR a (.inScope c::k)) cs w) = .next (lone (b.atR a k) cs w) :=
 step_lone_go (by simp [stepG,stepG.exec,Frame.atR])
theorem uE {F:Fence} {n:Nat} {P:Program} {Q:Exit→Act→World→Prop} {a:Act} {w:World} {c:Code} (hg:∀l a w,¬Q (.goto l) a w) (h:c.wpIn F n P Q a w):(Code.scope c).wpIn F n P Q a w:=by
 intro b k cs hro hb hr
 have h0:(lone (b.atR a (.code (.scope c)::k)) cs w).fenced P F:=fenced_calm hb hr rfl
 obtain ⟨e,a₁,w₁,hq,harr⟩:=h b (.inScope c::k) cs hro hb hr
 cases e with
 | normal=>exact ⟨.normal,a₁,w₁,hq,.head h0 cW (StepsIn.trans harr (.one (fenced_calm hb hr rfl) nU))⟩
 | exit id =>
  have hx:exitTo id (.inScope c::k)=exitTo id k:=by simp [exitTo]
  exact ⟨.exit id,a₁,w₁,hq,fun k' hk => .head h0 cW (harr.1 k' (by rw [hx]; exact hk)),fun hr' hk=>let ⟨k₁,h1,h2⟩:=harr.2 hr' (by rw [hx]; exact hk); ⟨k₁,h1,.head h0 cW h2⟩⟩
 | goto l=>exact absurd hq (hg l _ _)
 | ret=>exact ⟨_,a₁,w₁,hq,.of_steps (.one h0 cW) harr⟩
 | panic ch=>exact ⟨_,a₁,w₁,hq,.of_steps (.one h0 cW) harr⟩
 | outgrown=>exact ⟨_,a₁,w₁,hq,.of_steps (.one h0 cW) harr⟩
theorem wj {P:Program} {z:Bool} (hm:P.follows .mixedOrders=true):∀(c:Code),Fz P z c:=by
 intro c
 induction c with
 | skip=>intro rr c0 ne N Q s a w _ h hs; exact wpIn_skip ⟨s,h,hs⟩
 | label l=>intro rr c0 ne N Q s a w _ h hs; exact wpIn_label ⟨s,h,hs⟩
 | exit i=>intro rr c0 ne N Q s a w _ h hs; exact wpIn_exit ⟨s,h,hs⟩
 | ret=>intro rr c0 ne N Q s a w _ h hs; exact wpIn_ret ⟨s,h,hs⟩
 | rangeFunc g ps assign body ia ib=>exact r8 ia ib g ps
 | region id ops draw =>
  intro rr c0 ne N Q s a w hok h hs
  simp only [a9,Bool.and_eq_true,List.all_eq_true] at hok
  have hdst:∀o∈ops.toList,∀d,o.dst=some d→d<N:=fun o ho d hd=>by
   have:=hok.1 o ho
   rw [hd] at this
   simpa using this
  cases draw with
  | false =>
   obtain ⟨c,rfl,hk,hfr,ht,hN,hd,hst,h0,hne⟩:=hs
   refine wpIn_region_list ?_
   simp only [fO] at h
   exact sU (c0:=c0) (ne:=ne) (N:=N) (fun s a w hK hS=>⟨s,hK,hS⟩) ops.toList 0 s.t s.f s.n a c h hdst hk hfr ht hN hd hst h0 hne
  | true =>
   cases z with
   | false =>
    simp only [fO,Bool.and_false,cond_false,cond_true] at h
    exact mi hm (by simpa using hok.2) hdst (fun s a w hK hS=>⟨s,hK,hS⟩) h hs
   | true =>
    simp only [fO,Bool.and_true,cond_true] at h
    rcases h with h|h|⟨i,hi,h⟩
    ·exact mi hm h.1 hdst (fun s a w hK hS=>⟨s,hK,hS⟩) h.2 hs
    ·exact wh hm hdst (fun s a w hK hS=>⟨s,hK,hS⟩) (h (by obtain ⟨c,_,_,hfr,_⟩:=hs; exact fun j hj=>(hfr j).2 hj)) hs
    ·exact sy hm hi hdst (fun s a w hK hS=>⟨s,hK,hS⟩) h hs
 | seq x y ihx ihy =>
  intro rr c0 ne N Q s a w hok h hs
  simp only [a9,Bool.and_eq_true] at hok
  simp only [fO] at h
  refine wpIn_seq (wpIn_mono (ihx rr c0 ne N _ s a w hok.1 h hs) fun e a' w' hq=>?_)
  cases e<;>simp only [QR] at hq<;>simp only [Exit.then]
  case normal=>obtain ⟨s',h1,h2⟩:=hq; exact ihy rr c0 ne N Q s' a' w' hok.2 h1 h2
  all_goals exact hq
 | cond c x y ihx ihy =>
  intro rr c0 ne N Q s a w hok h hs
  simp only [a9,Bool.and_eq_true] at hok
  simp only [fO] at h
  split at h
  ·rename_i b hb
   have hev:a.eval c = .bool b:=by
    obtain ⟨cx,_,_,_,ht,_⟩:=hs
    have:=i8 ht c
    rw [hb] at this; simpa only [Rv] using this
   exact wpIn_cond_split hev (fun h1=>ihx rr c0 ne N Q s a w hok.1 (h.1 h1) hs) (fun h1=>ihy rr c0 ne N Q s a w hok.2 (h.2 h1) hs)
  ·exact h.elim
 | scope c ih =>
  intro rr c0 ne N Q s a w hok h hs
  simp only [a9] at hok
  simp only [fO] at h
  exact uE (fun l a w hq=>by simp only [QR] at hq) (ih rr c0 ne N Q s a w hok h hs)
 | block id c ih =>
  intro rr c0 ne N Q s a w hok h hs
  simp only [a9] at hok
  simp only [fO] at h
  refine wpIn_block (wpIn_mono (ih rr c0 ne N _ s a w hok h hs) fun e a' w' hq=>?_)
  cases e<;>simp only [QR] at hq<;>simp only [Exit.inBlock]
  case normal=>exact hq
  case exit i =>
   obtain ⟨s',h1,h2⟩:=hq
   split at h1
   ·rename_i hi; rw [if_pos hi]; exact ⟨s',h1,h2⟩
   ·rename_i hi; rw [if_neg hi]; exact ⟨s',h1,h2⟩
  case ret=>exact hq
 | loop c ih =>
  intro rr c0 ne N Q s a w hok h hs
  simp only [a9] at hok
  simp only [fO] at h
  obtain ⟨α,st,m,x0,hle,hround⟩:=h
  refine nX (fun x a w=>nJ c0 ne N (st x) a w) m x0 (hle c0 N a w hs) fun x a' w' hI=>?_
  refine wpIn_mono (ih rr c0 ne N _ (st x) a' w' hok (hround x) hI) fun e a2 w2 hq=>?_
  cases e<;>simp only [QR] at hq<;>simp only [Exit.then]
  case normal =>
   obtain ⟨s',⟨y,h1,h2⟩,h3⟩:=hq
   exact ⟨y,h1 c0 N a2 w2 h3,h2⟩
  all_goals exact hq
 | _=>intro rr c0 ne N Q s a w _ h hs; simp only [fO] at h
def aB (P:Program) (s:St):List ResultVar→(List AV→Prop)→Prop
 | [],K=>K []
 | .tmp t::r,K=>aB P s r fun vs=>K (s.t t::vs)
 | .cell a ty::r,K =>
  match aL P s.f (aS s.t) (.load ty (.tmp a)) with
  | some (p,v)=>p∧aB P s r fun vs=>K (v::vs)
  | none=>False
def aw (vs:List AV):AV :=
 match vs with
 | [v]=>v
 | vs => .tup vs
def dP (args:List AV):Nat→AV:=fun k=>args.getD k .any
def vJ (tmps:Array Value):ResultVar→Sem Value
 | .tmp t=>pure (tmps.getD t undef)
 | .cell a t=>do loadVar t (←asAddr (tmps.getD a undef))
theorem uc (fn:Func) (tmps:Array Value):results fn tmps=(do
 let vs ←fn.results.mapM (vJ tmps)
 pure (if h:vs.size=1 then vs[0] else .tuple vs)):=by
 unfold results
 congr 1
theorem yz {P:Program} {c:Cx} {s:St} {a:Act} (hk:HOk c s.f) (ht:∀k,Rv c (s.t k) (a.tmps.getD k undef)):∀(rs:List ResultVar) (K:List AV→Prop),aB P s rs K →
 ∃l vs,K l∧Rl c l vs∧(rs.mapM (vJ a.tmps):Sem (List Value)).run P c.w = .ok vs c.w:=by
 intro rs
 induction rs with
 | nil=>intro K h; exact ⟨[],[],h,by simp [Rl],by simp⟩
 | cons r rs ih =>
  intro K h
  cases r with
  | tmp t =>
   simp only [aB] at h
   obtain ⟨l,vs,h1,h2,h3⟩:=ih _ h
   refine ⟨s.t t::l,a.tmps.getD t undef::vs,h1,?_,?_⟩
   ·simp only [Rl]; exact ⟨_,_,rfl,ht t,h2⟩
   ·simp only [List.mapM_cons,vJ,Sem.run_bind,Sem.run_pure,Result.andThen_ok,h3]
  | cell ad t =>
   simp only [aB] at h
   split at h
   ·rename_i p v hv
    obtain ⟨l,vs,h1,h2,h3⟩:=ih _ h.2
    obtain ⟨r,g1,g2⟩:=oW (o:=⟨none,.load t (.tmp ad),0, "", #[],none⟩) hk (i8 ht) hv h.1
    refine ⟨v::l,r::vs,h1,?_,?_⟩
    ·simp only [Rl]; exact ⟨_,_,rfl,g2,h2⟩
    ·have hp:∃x,a.tmps.getD ad undef = .pointer (some x):=by
      have:=ht ad
      simp only [aL,aS] at hv
      split at hv
      ·rename_i ti cs hti hta
       rw [hta] at this; simp only [Rv] at this
       obtain ⟨b,o,_,hx,_⟩:=this
       exact ⟨_,hx⟩
      ·rename_i ti id idx off hti hta
       rw [hta] at this; simp only [Rv] at this
       obtain ⟨_,b,o,hx,_⟩:=this
       exact ⟨_,hx⟩
      ·cases hv
     obtain ⟨x,hx⟩:=hp
     have hl:(loadVar t x).run P c.w = .ok r c.w:=by
      simp only [execOp,Act.eval,hx,Instr.loadAt,Instr.sureAddr,Sem.run_bind,Sem.run_pure,Result.andThen_ok] at g1
      cases hlv:(loadVar t x).run P c.w with
      | ok r' w'=>rw [hlv] at g1; simpa using g1
      | halt e w'=>rw [hlv] at g1; simp at g1
     have e1:(asAddr (a.tmps.getD ad undef)).run P c.w = .ok x c.w:=by rw [hx]; rfl
     simp only [List.mapM_cons,vJ,Sem.run_bind,e1,Sem.run_pure,Result.andThen_ok,hl,h3]
   ·exact h.elim
theorem se {P:Program} {c:Cx} {s:St} {a:Act} {fn:Func} (hk:HOk c s.f) (ht:∀k,Rv c (s.t k) (a.tmps.getD k undef)) {K:List AV→Prop} (h:aB P s fn.results.toList K) :
 ∃l v,K l∧Rv c (aw l) v∧(results fn a.tmps).run P c.w = .ok v c.w:=by
 obtain ⟨l,vs,h1,h2,h3⟩:=yz hk ht fn.results.toList K h
 have hr:(results fn a.tmps).run P c.w = .ok (if h:vs.toArray.size=1 then vs.toArray[0] else .tuple vs.toArray) c.w:=by
  rw [uc,Array.mapM_eq_mapM_toList]
  simp only [Sem.run_bind,Sem.run_map,Result.andThen_ok]
  rw [h3]
  simp only [Result.andThen_ok,Sem.run_pure]
 refine ⟨l,_,h1,?_,hr⟩
 have hlen:=h2.length
 match l,vs,h2,hlen with
 | [],[],_,_=>simp only [aw,Rv]; exact ⟨#[],rfl,by simp [Rl]⟩
 | [x],[v],h2,_ =>
  simp only [Rl] at h2
  obtain ⟨v',r,hv,hr,_⟩:=h2
  simp only [List.cons.injEq] at hv
  obtain ⟨rfl,_⟩:=hv
  simpa [aw] using hr
 | x::y::l,v::u::vs,h2,_ =>
  simp only [aw,Rv]
  exact ⟨(v::u::vs).toArray,by simp,h2⟩
theorem Bw {c:Cx} {args:List AV} {vs:List Value} (h:Rl c args vs) (N:Nat):∀k,Rv c (dP args k) ((vs.toArray++Array.replicate (N-vs.toArray.size) undef).getD k undef):=by
 intro k
 have hlen:=h.length
 unfold dP
 rw [List.getD_eq_getElem?_getD]
 cases ha:args[k]? with
 | none=>simp only [Option.getD_none,Rv]
 | some x =>
  obtain ⟨v,hv,hr⟩:=h.get k x ha
  have hlt:k<vs.length:=by
   rcases Nat.lt_or_ge k vs.length with h'|h'
   ·exact h'
   ·rw [List.getElem?_eq_none h'] at hv; cases hv
  simp only [Option.getD_some]
  rw [Array.getD_eq_getD_getElem?,Array.getElem?_append_left (by simpa using hlt)]
  simp only [List.getElem?_toArray,hv,Option.getD_some]
  exact hr
theorem fS {P:Program} {g:FuncId} {fn:Func} {c:Code} (hf:P.funcs[g]?=some fn) (hb:fn.body=some c) (hname:(fn.name == "runtime.NumGoroutine")=false) {vs:Array Value} {w:World} {Post:Value→World→Prop}
 (h:Calls P g vs w fun e w'=>∃v,e = .returned v∧Post v w'):bD P g vs w Post:=by
 have:(callFunc g vs).run P w = .ok (.enter g vs) w:=by
  unfold callFunc
  simp only [Sem.run_bind,run_program,Result.andThen_ok,hf,hname,Bool.false_eq_true,if_false,hb,Option.isNone_some,Sem.run_pure]
 unfold bD
 rw [this]
 exact h
theorem xS {c0 c:Cx} {f:Nat→BS} {D:Nat} (hk:HOk c f) (h1:c.w.heap[D]?=some (.deferred (some []))) (h2:∀id e,c.mu id=some e→e.real=true→e.block≠D) (hlo:c0.w.heap.size≤D) (hs:Stp c0 c) :
 HOk { c with w:=c.w.putObj D (.deferred none) } f∧Kr c { c with w:=c.w.putObj D (.deferred none) }∧Stp c0 { c with w:=c.w.putObj D (.deferred none) }:=by
 have hother:∀b,b≠D→(c.w.putObj D (.deferred none)).heap[b]?=c.w.heap[b]?:=fun b hb=>World.putObj_heap_other hb
 have hkr:Kr c { c with w:=c.w.putObj D (.deferred none) }:=by
  refine ⟨by simp,fun b hb hF o v hv=>?_,fun _ h=>h,fun _ _ => .inl rfl,fun _ _ h=>h⟩
  have hbD:b≠D:=fun hbD=>by
   subst hbD
   unfold World.cell? at hv
   rw [h1] at hv; cases hv
  rw [e_ (hother b hbD)]; exact hv
 refine ⟨?_,hkr,⟨hs.os,hs.tape,hs.output,by simp only [World.putObj_size]; exact hs.size,fun b hb hn=>(hother b (by omega)).trans (hs.keep b hb hn),hs.U,hs.mu,hs.new,hs.F⟩⟩
 constructor
 ·exact hk.used
 ·exact hk.none
 ·intro id sz l h
  obtain ⟨e,he,g1,g2,g3⟩:=hk.live id sz l h
  refine ⟨e,he,g1,g2,fun hr=>?_⟩
  obtain ⟨hre,htot,cs,ty,hh,hsz⟩:=g3 hr
  have hb:=hother e.block (h2 id e he hr)
  refine ⟨Re.of_get fun i a hi=>?_,htot,cs,ty,hb.trans hh,hsz⟩
  obtain ⟨v,q1,q2,q3,q4,q5⟩:=hre.get i a hi
  exact ⟨v,q1.keepR hkr,q2,q3,q4,q5.block hb⟩
 ·intro id o t h
  obtain ⟨e,oo,he,g1,g2,g3,gS,g4,g5,g6⟩:=hk.obj id o t h
  exact ⟨e,oo,he,g1,g2,g3,gS,(hother e.block (h2 id e he g1)).trans g4,fun k=>(g5 k).keepR hkr,g6⟩
 ·exact hk.inj
 ·exact hk.shut
theorem kY {P:Program} {fn:Func} {tmps:Array Value} {R:Ending→World→Prop} {c0:Cx} {f:Nat→BS} {t:Nat→AV}
 (key:∀c:Cx,HOk c f→(∀k,Rv c (t k) (tmps.getD k undef))→Stp c0 c→∃v,(results fn tmps).run P c.w = .ok v c.w∧R (.returned v) c.w) :
 ∀(ds:List Deferred) (c:Cx),HOk c f→(∀k,Rv c (t k) (tmps.getD k undef))→Stp c0 c→cg c c0.w.heap.size ds→LeavesInM Fence.wide 0 P fn tmps R ds .returning c.w
 | [],c,hk,ht,hs,_=>key c hk ht hs
 | d::ds,c,hk,ht,hs,⟨⟨D,hd,hlo,h1,h2⟩,hnot,hrest⟩=>by
  obtain ⟨g1,g2,g3⟩:=xS hk h1 h2 hlo hs
  refine ⟨by simp,.inl ⟨D,_,by rw [hd],run_takeDeferred h1,?_⟩⟩
  refine kY key ds { c with w:=c.w.putObj D (.deferred none) } g1 (fun k=>(ht k).keepR g2) g3 ?_
  have:∀ds:List Deferred,d ∉ ds→cg c c0.w.heap.size ds→cg { c with w:=c.w.putObj D (.deferred none) } c0.w.heap.size ds:=by
   intro ds
   induction ds with
   | nil=>intro _ _; trivial
   | cons d' ds ih =>
    rintro hn ⟨⟨D',q1,q2,q3,q4⟩,q5,q6⟩
    simp only [List.mem_cons,not_or] at hn
    refine ⟨⟨D',q1,q2,?_,q4⟩,q5,ih hn.2 q6⟩
    have hne:D'≠D:=fun h=>hn.1 (by rw [hd,q1,h])
    exact (World.putObj_heap_other hne).trans q3
  exact this ds hnot hrest
theorem CA.of_wp {P:Program} {z:Bool} (hm:P.follows .mixedOrders=true) {g:FuncId} {fn:Func} {c:Code} (hf:P.funcs[g]?=some fn) (hb:fn.body=some c) (hname:(fn.name == "runtime.NumGoroutine")=false) {args:List AV} (hN:args.length≤fn.ntmps) (hok:fU z fn.ntmps c=true)
 {f:Nat→BS} {n:Nat} {K:AV→(Nat→BS)→Nat→Prop}
 (h:fO P z n c (fun e s=>match e with | .exit _=>False|_=>aB P s fn.results.toList fun l=>K (aw l) s.f s.n) ⟨dP args,f,n⟩):CA P g args f n K:=by
 intro cx vs hk hfr hl
 refine fS hf hb hname ?_
 refine callsIn_wide (n:=0).1 ?_
 refine callsIn_of_wp_marks hf hb trivial ?_
 have hlen:=hl.length
 have hsat:nJ cx n fn.ntmps ⟨dP args,f,n⟩ { tmps:=vs.toArray++Array.replicate (fn.ntmps-vs.toArray.size) undef,defers:=[] } cx.w :=
  ⟨cx,rfl,hk,hfr,Bw hl fn.ntmps,by simp; omega,trivial,Stp.refl cx,uV hk hfr,Nat.le_refl _⟩
 rw [←BL]
 refine wpIn_mono (wj hm c none cx n fn.ntmps _ _ _ _ hok h hsat) fun e a w hq=>?_
 have key:∀s,(aB P s fn.results.toList fun l=>K (aw l) s.f s.n)→nJ cx n fn.ntmps s a w→LeavesInM (Fr none) 0 P fn a.tmps (fun e w'=>∃v,e = .returned v ∧
  ∃c' r f' n',c'.w=w'∧K r f' n'∧HOk c' f'∧Rv c' r v∧Stp cx c'∧n≤n'∧∀j,f' j = .fresh↔n'≤j) a.defers .returning w:=by
  rintro s hs ⟨c',rfl,hk',hfr',ht',hN',hd',hst',h0',hne'⟩
  refine kY (c0:=cx) (f:=s.f) (t:=s.t) (fun c2 hk2 ht2 hs2=>?_) a.defers c' hk' ht' hst' hd'
  obtain ⟨l,v,g1,g2,g3⟩:=se hk2 ht2 hs
  exact ⟨v,g3,v,rfl,c2,aw l,s.f,s.n,rfl,g1,hk2,g2,hs2,hne',hfr'⟩
 cases e<;>simp only [QR] at hq<;>simp only [bodyPostM]
 case normal=>obtain ⟨s,h1,h2⟩:=hq; exact key s h1 h2
 case ret=>obtain ⟨s,h1,h2⟩:=hq; exact key s h1 h2
 case exit i=>obtain ⟨s,h1,h2⟩:=hq; exact h1
theorem aa.of_wp {P:Program} {z:Bool} (hm:P.follows .mixedOrders=true) {g:FuncId} {fn:Func} {c:Code} (hf:P.funcs[g]?=some fn) (hb:fn.body=some c) (hname:(fn.name == "runtime.NumGoroutine")=false) {args:List AV} (hN:args.length≤fn.ntmps) (hok:fU z fn.ntmps c=true)
 {r:AV} (hro:ro r)
 (h:fO P z 0 c (fun e s=>match e with | .exit _=>False|_=>aB P s fn.results.toList fun l=>aD s.f (aw l)=r∧au s.f (aw l)) ⟨dP args,fun _ => .fresh,0⟩):aa P g args r:=by
 refine ⟨hro,fun cx vs hm0 hU0 hl=>?_⟩
 have hk0:HOk cx (fun _ => .fresh):=by
  constructor
  ·intro id; simp [hU0 id]
  ·intro id _; exact hm0 id
  ·intro id sz l h; cases h
  ·intro id o t h; cases h
  ·intro i j ei ej h; rw [hm0] at h; cases h
  ·intro id e h; rw [hm0] at h; cases h
 have hca:CA P g args (fun _ => .fresh) 0 (fun r0 f' n'=>aD f' r0=r∧au f' r0):=CA.of_wp hm hf hb hname hN hok h
 refine (hca cx vs hk0 (fun _=>by simp) hl).mono fun v w' ⟨c',r0,f',n',q1,q2,q3,q4,q5,_⟩=>?_
 obtain ⟨g1,g2⟩:=q2
 refine ⟨c'.bare fun b=>cx.F b∧b<cx.w.heap.size,q1,?_,?_⟩
 ·refine ⟨q5.os,q5.tape,q5.output,q5.size,q5.keep,fun id h=>absurd h (hU0 id),fun id h=>absurd h (hU0 id),fun id e h=>(by cases h),fun b hb=>⟨fun h=>h.1,fun _ h=>⟨h,hb⟩⟩⟩
 ·rw [←g1]
  refine qN q3 (fun b _ h=>(q5.F b h.2).2 (fun id e he _=>absurd he (by rw [hm0 id]; exact fun h=>nomatch h)) h.1) (fun id e he hr h=>?_) r0 v g2 (by rw [g1]; exact hro) q4
  rcases q5.new id e he hr with h1|⟨j,e',hj,_⟩
  ·omega
  ·rw [hm0] at hj; cases hj
inductive Itm:Type 1 where
 | code (c:Code)
 | ops (y q:Bool) (O:Array Oper) (n0 i:Nat) (l:List Oper)
 | blk (id:Nat)
 | lp (α:Type) (st:α→St) (m:α→Nat) (x:α)
mutual
def ly (P:Program) (z:Bool) (ne:Nat) (Q:AEx→St→Prop):List Itm→St→Prop
 | [],s=>Q .normal s
 | .code c::k,s=>fO P z ne c (fun e s'=>match e with | .normal=>ly P z ne Q k s' | .exit i=>goX P z ne Q i k s' | .ret=>Q .ret s') s
 | .ops y q O n0 i l::k,s=>cJ P y q O n0 (fun s'=>ly P z ne Q k s') i l s.t s.f s.n
 | .blk _::k,s=>ly P z ne Q k s
 | .lp _ st m x::_,s=>∃y,le ne s (st y)∧m y<m x
def goX (P:Program) (z:Bool) (ne:Nat) (Q:AEx→St→Prop) (i:Nat):List Itm→St→Prop
 | [],s=>Q (.exit i) s
 | .blk j::k,s=>if i=j then ly P z ne Q k s else goX P z ne Q i k s
 | _::k,s=>goX P z ne Q i k s
end
def go (P:Program) (z:Bool) (ne:Nat) (Q:AEx→St→Prop) (k:List Itm) (t:Nat→AV) (f:Nat→BS) (n:Nat):Prop:=ly P z ne Q k ⟨t,f,n⟩
def u_ (P:Program) (z:Bool) (ne:Nat) (Q:AEx→St→Prop) (i:Nat) (k:List Itm) (t:Nat→AV) (f:Nat→BS) (n:Nat):Prop:=goX P z ne Q i k ⟨t,f,n⟩
def kz (P:Program) (z:Bool) (ne:Nat) (Q:AEx→St→Prop) (x:er) (d:Option Tmp) (k:List Itm) (t:Nat→AV) (f:Nat→BS) (n:Nat):Prop :=
 match x with
 | some (s,v)=>s∧go P z ne Q k (ay t d v) f n
 | none=>False
def B0 (P:Program) (z:Bool) (ne:Nat) (Q:AEx→St→Prop) (id:Nat) (x:Option (Prop×AV×BS)) (d:Option Tmp) (k:List Itm) (t:Nat→AV) (f:Nat→BS) (n:Nat):Prop :=
 match x with
 | some (s,v,b)=>s∧go P z ne Q k (ay t d v) (ap f id b) n
 | none=>False
def wU (P:Program) (z:Bool) (ne:Nat) (Q:AEx→St→Prop) (g:FuncId) (args:List AV) (d:Option Tmp) (k:List Itm) (t:Nat→AV) (f:Nat→BS) (n:Nat):Prop :=
 CA P g args f n fun r f' n'=>go P z ne Q k (ay t d r) f' n'
def BU (P:Program) (z:Bool) (ne:Nat) (Q:AEx→St→Prop) (bq:Bool) (g:FuncId) (args:List AV) (d:Option Tmp) (k:List Itm) (t:Nat→AV) (f:Nat→BS) (n:Nat):Prop :=
 (∃r,CV P g args f r∧go P z ne Q k (ay t d r) f n)∨(bq=true∧CE P g args f fun r f'=>go P z ne Q k (ay t d r) f' n)
def KX (P:Program) (z:Bool) (ne:Nat) (Q:AEx→St→Prop) (id:Nat) (args:List AV) (d:Option Tmp) (k:List Itm) (t:Nat→AV) (f:Nat→BS) (n:Nat):Prop :=
 YA P id args f n fun r f' n'=>go P z ne Q k (ay t d r) f' n'
def kv (P:Program) (z:Bool) (ne:Nat) (Q:AEx→St→Prop) (q bq:Bool) (x:Option (FuncId×List AV)) (y:Option Nat) (args:List AV) (d:Option Tmp) (k:List Itm) (t:Nat→AV) (f:Nat→BS) (n:Nat):Prop :=
 match x with
 | some (g,args)=>if q then BU P z ne Q bq g args d k t f n else wU P z ne Q g args d k t f n
 | none=>if q then False else match y with
  | some id=>KX P z ne Q id args d k t f n
  | none=>False
def KW (P:Program) (z:Bool) (ne:Nat) (Q:AEx→St→Prop) (v:AV) (k1 k2:List Itm) (t:Nat→AV) (f:Nat→BS) (n:Nat):Prop :=
 match v with
 | .bool b=>(b=true→go P z ne Q k1 t f n)∧(b=false→go P z ne Q k2 t f n)
 | _=>False
section
variable {P:Program} {z:Bool} {ne:Nat} {Q:AEx→St→Prop} {k:List Itm} {t:Nat→AV} {f:Nat→BS} {n:Nat}
theorem Ey:go P z ne Q [] t f n=Q .normal ⟨t,f,n⟩:=rfl
theorem Cb:go P z ne Q (.code .skip::k) t f n=go P z ne Q k t f n:=rfl
theorem zO {l:Nat}:go P z ne Q (.code (.label l)::k) t f n=go P z ne Q k t f n:=rfl
theorem EA:go P z ne Q (.code .ret::k) t f n=Q .ret ⟨t,f,n⟩:=rfl
theorem Et {id:Nat}:go P z ne Q (.blk id::k) t f n=go P z ne Q k t f n:=rfl
theorem B7 {i:Nat}:go P z ne Q (.code (.exit i)::k) t f n=u_ P z ne Q i k t f n:=rfl
theorem BY {i:Nat}:u_ P z ne Q i [] t f n=Q (.exit i) ⟨t,f,n⟩:=rfl
theorem zD {i:Nat}:u_ P z ne Q i (.blk i::k) t f n=go P z ne Q k t f n:=by simp [u_,go,goX]
theorem BX {i j:Nat}:u_ P z ne Q i (.blk j::k) t f n=if i=j then go P z ne Q k t f n else u_ P z ne Q i k t f n:=rfl
theorem zC {i:Nat} {c:Code}:u_ P z ne Q i (.code c::k) t f n=u_ P z ne Q i k t f n:=rfl
theorem BZ {i:Nat} {y q:Bool} {O:Array Oper} {n0 j:Nat} {l:List Oper}:u_ P z ne Q i (.ops y q O n0 j l::k) t f n=u_ P z ne Q i k t f n:=rfl
theorem Ej {i:Nat} {α:Type} {st:α→St} {m:α→Nat} {x:α}:u_ P z ne Q i (.lp α st m x::k) t f n=u_ P z ne Q i k t f n:=rfl
theorem EB {a b:Code}:go P z ne Q (.code (.seq a b)::k) t f n=go P z ne Q (.code a :: .code b::k) t f n:=by
 simp only [go,ly,fO]
 congr 1
 funext e s
 cases e<;>rfl
theorem zL {id:Nat} {c:Code}:go P z ne Q (.code (.block id c)::k) t f n=go P z ne Q (.code c :: .blk id::k) t f n:=by
 simp only [go,ly,fO]
 congr 1
 funext e s
 cases e<;>rfl
theorem zU {c:Code}:go P z ne Q (.code (.scope c)::k) t f n=go P z ne Q (.code c::k) t f n:=by
 simp only [go,ly,fO]
theorem wZ {id:Nat} {O:Array Oper}:go P z ne Q (.code (.region id O false)::k) t f n=go P z ne Q (.ops false false O n 0 O.toList::k) t f n:=rfl
theorem tH {id:Nat} {O:Array Oper}:go P false ne Q (.code (.region id O true)::k) t f n=go P false ne Q (.ops false true O n 0 O.toList::k) t f (n+O.size):=rfl
theorem B6 {c:Operand} {x y:Code}:go P z ne Q (.code (.cond c x y)::k) t f n=KW P z ne Q (aS t c) (.code x::k) (.code y::k) t f n:=by
 simp only [go,ly,fO,KW]<;>(cases aS t c<;>rfl)
theorem bz {id:Nat} {O:Array Oper} (h:eH false O=true) (g:go P z ne Q (.ops false true O n 0 O.toList::k) t f (n+O.size)):go P z ne Q (.code (.region id O true)::k) t f n:=by
 cases z with
 | false=>exact g
 | true =>
  simp only [go,ly,fO,h,Bool.not_true,Bool.and_true,cond_true] at g ⊢
  exact .inl ⟨trivial,g⟩
theorem zo {b:Bool} {k1 k2:List Itm}:KW P z ne Q (.bool b) k1 k2 t f n=((b=true→go P z ne Q k1 t f n)∧(b=false→go P z ne Q k2 t f n)):=rfl
theorem lM {c:Code} {α:Type} (st:α→St) (m:α→Nat) (x0:α) (h0:le ne ⟨t,f,n⟩ (st x0)) (h:∀x,go P z ne Q (.code c :: .lp α st m x::k) (st x).t (st x).f (st x).n):go P z ne Q (.code (.loop c)::k) t f n:=by
 simp only [go,ly,fO]
 refine ⟨α,st,m,x0,h0,fun x=>?_⟩
 have:=h x
 simp only [go,ly] at this
 refine Eq.mp ?_ this
 congr 1
 funext e s
 cases e<;>rfl
theorem HT {α:Type} {st:α→St} {m:α→Nat} {x:α}:go P z ne Q (.lp α st m x::k) t f n=∃y,le ne ⟨t,f,n⟩ (st y)∧m y<m x:=rfl
section ops
variable {y q:Bool} {O:Array Oper} {n0 i:Nat} {r:List Oper} {d:Option Tmp} {ty:TypeId} {pos:String} {after:Array Edge}
theorem tG:go P z ne Q (.ops y false O n0 i []::k) t f n=go P z ne Q k t f n:=rfl
theorem ru:go P z ne Q (.ops y true O n0 i []::k) t f n=go P z ne Q k t (dB n f) n:=rfl
theorem zK {s:Prop} {v:AV}:kz P z ne Q (some (s,v)) d k t f n=(s∧go P z ne Q k (ay t d v) f n):=rfl
theorem jA {v:AV}:kz P z ne Q (some (True,v)) d k t f n=go P z ne Q k (ay t d v) f n:=by simp [kz]
theorem zE {id:Nat} {s:Prop} {v:AV} {b:BS}:B0 P z ne Q id (some (s,v,b)) d k t f n=(s∧go P z ne Q k (ay t d v) (ap f id b) n):=rfl
theorem zF {id:Nat} {v:AV} {b:BS}:B0 P z ne Q id (some (True,v,b)) d k t f n=go P z ne Q k (ay t d v) (ap f id b) n:=by simp [B0]
theorem zu {g:FuncId} {args as:List AV} {yy:Option Nat} {bq:Bool}:kv P z ne Q false bq (some (g,args)) yy as d k t f n=wU P z ne Q g args d k t f n:=rfl
theorem zB {id:Nat} {as:List AV} {bq:Bool}:kv P z ne Q false bq none (some id) as d k t f n=KX P z ne Q id as d k t f n:=rfl
theorem zv {g:FuncId} {args as:List AV} {yy:Option Nat} {bq:Bool}:kv P z ne Q true bq (some (g,args)) yy as d k t f n=BU P z ne Q bq g args d k t f n:=rfl
theorem fu {op:Op} (h:aE op = .v):go P z ne Q (.ops y q O n0 i (⟨d,op,ty,pos,after,none⟩::r)::k) t f n=kz P z ne Q (gG P (aS t) op) d (.ops y q O n0 (i+1) r::k) t f n:=by
 simp only [go,ly,cJ,fo,h,kz]
 cases gG P (aS t) op<;>rfl
theorem Ez {op:Op} (h:aE op = .r):go P z ne Q (.ops y q O n0 i (⟨d,op,ty,pos,after,none⟩::r)::k) t f n=kz P z ne Q (aL P (fz (dR y q O n0 i) f) (aS t) op) d (.ops y q O n0 (i+1) r::k) t f n:=by
 simp only [go,ly,cJ,fo,h,kz]
 cases aL P (fz (dR y q O n0 i) f) (aS t) op<;>rfl
theorem B9 {op:Op} (h:aE op = .g):go P z ne Q (.ops y q O n0 i (⟨d,op,ty,pos,after,none⟩::r)::k) t f n=B0 P z ne Q (nK q n0 i n) (nO P (nK q n0 i n) (aS t) op) d (.ops y q O n0 (i+1) r::k) t f (jG q n):=by
 simp only [go,ly,cJ,fo,h,B0]
 cases nO P (nK q n0 i n) (aS t) op<;>rfl
theorem B5 {c:Call} (h:aE (.call c) = .c):go P z ne Q (.ops y q O n0 i (⟨d,.call c,ty,pos,after,none⟩::r)::k) t f n=kv P z ne Q q (cK O i) (cY (aS t) c) (yi (aS t) c) (c.args.toList.map (aS t)) d (.ops y q O n0 (i+1) r::k) t f n:=by
 simp only [go,ly,cJ,fo,h,kv,wU,BU,KX]
 cases cY (aS t) c<;>cases yi (aS t) c<;>rfl
theorem Dn {op:Op} (h:aE op = .n):go P z ne Q (.ops y false O n0 i (⟨d,op,ty,pos,after,none⟩::r)::k) t f n=(Im P (aS t) (fun v=>go P z ne Q (.ops y false O n0 (i+1) r::k) (ay t d v) f n) op∨Fu P f (aS t) (fun v f'=>go P z ne Q (.ops y false O n0 (i+1) r::k) (ay t d v) f' n) op):=by
 simp only [go,ly,cJ,fo,h,Bool.false_eq_true,if_false]
theorem zM {x:Operand} {t' e:TypeId} {ti te:TI} {sz sz' b off len:Nat} {l:List AV} (h1:ai P t'=some ti) (h2:ti.kind = .slice e) (h3:ai P e=some te) (hx:aS t x = .own sz b off len) (hf:f b = .live sz' l) (hs:te.size=sz∧0<len∧off+len≤l.length)
 (h:go P z ne Q (.ops y false O n0 (i+1) r::k) (ay t d (.tup [])) (ap f b (.live sz' (l.take off))) n):go P z ne Q (.ops y false O n0 i (⟨d,.call ⟨.builtin .clear,#[x],#[t']⟩,ty,pos,after,none⟩::r)::k) t f n:=by
 rw [Dn rfl]
 refine .inr ?_
 simp only [Fu,h1,h2,h3,hx,hf]
 exact ⟨hs,h⟩
def nN (P:Program) (z:Bool) (ne:Nat) (Q:AEx→St→Prop) (v:AV) (e:Tmp) (want:Bool) (d:Option Tmp) (k1 k2:List Itm) (t:Nat→AV) (f:Nat→BS) (n:Nat):Prop :=
 match v with
 | .bool b=>(b=want→go P z ne Q k1 (ap t e (.bool want)) f n)∧(b = !want→go P z ne Q k2 (ay (ap t e (.bool (!want))) d (.tup [])) f n)
 | .tup []=>go P z ne Q k2 (ay t d (.tup [])) f n
 | _=>False
theorem zN {op:Op} {j:Nat} {want:Bool} {e:Tmp} (h:dm O j=some e):go P z ne Q (.ops y q O n0 i (⟨d,op,ty,pos,after,some (j,want)⟩::r)::k) t f n =
 nN P z ne Q (t e) e want d (.ops y q O n0 i (⟨d,op,ty,pos,after,none⟩::r)::k) (.ops y q O n0 (i+1) r::k) t f n:=by
 simp only [go,ly,cJ,h,nN]
 all_goals
  generalize t e=v
  cases v<;>first|rfl|(rename_i cs; cases cs<;>rfl)
theorem zH {e:Tmp} {want:Bool} {k1 k2:List Itm}:nN P z ne Q (.bool want) e want d k1 k2 t f n=go P z ne Q k1 (ap t e (.bool want)) f n:=by
 cases want<;>simp [nN]
theorem B1 {e:Tmp} {want:Bool} {k1 k2:List Itm}:nN P z ne Q (.bool (!want)) e want d k1 k2 t f n=go P z ne Q k2 (ay (ap t e (.bool (!want))) d (.tup [])) f n:=by
 cases want<;>simp [nN]
theorem zG {e:Tmp} {want:Bool} {k1 k2:List Itm}:nN P z ne Q (.tup []) e want d k1 k2 t f n=go P z ne Q k2 (ay t d (.tup [])) f n:=rfl
theorem wV {b:Bool} {e:Tmp} {want:Bool} {k1 k2:List Itm}:nN P z ne Q (.bool b) e want d k1 k2 t f n=((b=want→go P z ne Q k1 (ap t e (.bool want)) f n)∧(b = !want→go P z ne Q k2 (ay (ap t e (.bool (!want))) d (.tup [])) f n)):=rfl
end ops
theorem an {g:FuncId} {args:List AV} {d:Option Tmp} (r:AV) (hp:aa P g args r) (hro:roL args) (h:go P z ne Q k (ay t d r) f n):wU P z ne Q g args d k t f n:=CA.of_pure_ro hp hro h
theorem ac {g:FuncId} {args:List AV} {d:Option Tmp} {r:AV} (hp:aa P g args r) (h:go P z ne Q k (ay t d r) f n) (hro:roL args:=by simp -implicitDefEqProofs [go_sem]):wU P z ne Q g args d k t f n:=an r hp hro h
theorem zr {g:FuncId} {args args':List AV} {d:Option Tmp} (r:AV) (hp:aa P g args' r) (hv:viewL f args=args') (hro:roL args') (hfit:fitsL f args) (hor:roL args∨flat r) (h:go P z ne Q k (ay t d r) f n):wU P z ne Q g args d k t f n:=CA.of_pure hp hv hro hfit hor h
theorem Ei {bq:Bool} {g:FuncId} {args:List AV} {d:Option Tmp} (r:AV) (hp:CV P g args f r) (h:go P z ne Q k (ay t d r) f n):BU P z ne Q bq g args d k t f n := .inl ⟨r,hp,h⟩
theorem aH {bq:Bool} {g:FuncId} {args:List AV} {d:Option Tmp} (r:AV) (hp:aa P g args r) (hro:roL args) (h:go P z ne Q k (ay t d r) f n):BU P z ne Q bq g args d k t f n:=by
 refine .inl ⟨r,.of_pure ?_ ?_ (fitsL_ro f args hro) (.inl hro),h⟩
 ·rw [viewL_ro f args hro]; exact hp
 ·rw [viewL_ro f args hro]; exact hro
theorem ae {bq:Bool} {g:FuncId} {args:List AV} {d:Option Tmp} {r:AV} (hp:aa P g args r) (h:go P z ne Q k (ay t d r) f n) (hro:roL args:=by simp -implicitDefEqProofs [go_sem]):BU P z ne Q bq g args d k t f n:=aH r hp hro h
end
def AL (P:Program) (rs:List ResultVar) (r:AV):AEx→St→Prop:=fun e s =>
 match e with
 | .exit _=>False
 | _=>aB P s rs fun l=>aD s.f (aw l)=r∧au s.f (aw l)
def xO (P:Program) (rs:List ResultVar) (K:AV→(Nat→BS)→Nat→Prop):AEx→St→Prop:=fun e s =>
 match e with
 | .exit _=>False
 | _=>aB P s rs fun l=>K (aw l) s.f s.n
section
variable {P:Program} {rs:List ResultVar} {r:AV} {t:Nat→AV} {f f0:Nat→BS} {n n0:Nat} {K:AV→(Nat→BS)→Nat→Prop}
theorem AM:AL P rs r .ret ⟨t,f,n⟩=aB P ⟨t,f,n⟩ rs fun l=>aD f (aw l)=r∧au f (aw l):=rfl
theorem sg:AL P rs r .normal ⟨t,f,n⟩=aB P ⟨t,f,n⟩ rs fun l=>aD f (aw l)=r∧au f (aw l):=rfl
theorem AK:xO P rs K .ret ⟨t,f,n⟩=aB P ⟨t,f,n⟩ rs fun l=>K (aw l) f n:=rfl
theorem sf:xO P rs K .normal ⟨t,f,n⟩=aB P ⟨t,f,n⟩ rs fun l=>K (aw l) f n:=rfl
end
theorem yD {P:Program} {z:Bool} {ne:Nat} {Q:AEx→St→Prop} {c:Code} {t:Nat→AV} {f:Nat→BS} {n:Nat} (h:go P z ne Q [.code c] t f n):fO P z ne c Q ⟨t,f,n⟩:=by
 simp only [go,ly] at h
 refine Eq.mp ?_ h
 congr 1
 funext e s
 cases e<;>rfl
theorem aa.of_goz (z:Bool) {P:Program} (hm:P.follows .mixedOrders=true) {g:FuncId} {fn:Func} {c:Code} (hf:P.funcs[g]?=some fn) (hb:fn.body=some c) {rs:List ResultVar} (hrs:fn.results.toList=rs) {args:List AV} (hq:((fn.name == "runtime.NumGoroutine") || !(fU z fn.ntmps c) || !decide (args.length≤fn.ntmps))=false)
 {r:AV} (hro:ro r) (h:go P z 0 (AL P rs r) [.code c] (dP args) (fun _ => .fresh) 0):aa P g args r:=by
 simp only [Bool.or_eq_false_iff,Bool.not_eq_false',decide_eq_true_eq] at hq
 subst hrs
 exact aa.of_wp hm hf hb hq.1.1 hq.2 hq.1.2 hro (yD h)
theorem CA.of_goz (z:Bool) {P:Program} (hm:P.follows .mixedOrders=true) {g:FuncId} {fn:Func} {c:Code} (hf:P.funcs[g]?=some fn) (hb:fn.body=some c) {rs:List ResultVar} (hrs:fn.results.toList=rs) {args:List AV} (hq:((fn.name == "runtime.NumGoroutine") || !(fU z fn.ntmps c) || !decide (args.length≤fn.ntmps))=false)
 {f:Nat→BS} {n:Nat} {K:AV→(Nat→BS)→Nat→Prop} (h:go P z n (xO P rs K) [.code c] (dP args) f n):CA P g args f n K:=by
 simp only [Bool.or_eq_false_iff,Bool.not_eq_false',decide_eq_true_eq] at hq
 subst hrs
 exact CA.of_wp hm hf hb hq.1.1 hq.2 hq.1.2 (yD h)
theorem aa.of_go {P:Program} (hm:P.follows .mixedOrders=true) {g:FuncId} {fn:Func} {c:Code} (hf:P.funcs[g]?=some fn) (hb:fn.body=some c) {rs:List ResultVar} (hrs:fn.results.toList=rs) {args:List AV} (hq:((fn.name == "runtime.NumGoroutine") || !(fU false fn.ntmps c) || !decide (args.length≤fn.ntmps))=false)
 {r:AV} (hro:ro r) (h:go P false 0 (AL P rs r) [.code c] (dP args) (fun _ => .fresh) 0):aa P g args r :=
 aa.of_goz false hm hf hb hrs hq hro h
theorem CA.of_go {P:Program} (hm:P.follows .mixedOrders=true) {g:FuncId} {fn:Func} {c:Code} (hf:P.funcs[g]?=some fn) (hb:fn.body=some c) {rs:List ResultVar} (hrs:fn.results.toList=rs) {args:List AV} (hq:((fn.name == "runtime.NumGoroutine") || !(fU false fn.ntmps c) || !decide (args.length≤fn.ntmps))=false)
 {f:Nat→BS} {n:Nat} {K:AV→(Nat→BS)→Nat→Prop} (h:go P false n (xO P rs K) [.code c] (dP args) f n):CA P g args f n K :=
 CA.of_goz false hm hf hb hrs hq h
def E4 (nr:Nat) (t:Nat→AV) (r:Loop) (K:AV→(Nat→BS)→Nat→Prop):AEx→St→Prop:=fun e s =>
 s.f nr = .obj (.loop (dk r)) t∧K (.bool e.goes) (ap s.f nr (.obj (.loop (aV r e)) t)) s.n
def AP (P:Program) (z:Bool) (nr:Nat) (t:Nat→AV) (r:Loop) (n:Nat) (body:Code) (K:AV→(Nat→BS)→Nat→Prop):AEx→St→Prop:=fun e s =>
 e = .normal∧s.f nr = .obj (.loop r) t∧go P z n (E4 nr t r K) [.code body] s.t (ap s.f nr (.obj (.loop (dk r)) t)) s.n
def I2 (P:Program) (z:Bool) (nr len:Nat) (t:Nat→AV) (r:Loop) (assign body:Code) (ps:List Nat):Prop :=
 ∀(vs:List AV) (f:Nat→BS) (n:Nat) (K:AV→(Nat→BS)→Nat→Prop),vs.length=len→f nr = .obj (.loop r) t→nr<n→go P z n (AP P z nr t r n body K) [.code assign] (qp t ps vs) f n→YA P nr vs f n K
def wW (P:Program) (z:Bool) (ne:Nat) (Q:AEx→St→Prop) (e:AEx) (k:List Itm) (t:Nat→AV) (f:Nat→BS) (n:Nat):Prop :=
 match e with
 | .normal=>go P z ne Q k t f n
 | .exit i=>u_ P z ne Q i k t f n
 | .ret=>Q .ret ⟨t,f,n⟩
def El (P:Program) (z:Bool) (ne:Nat) (Q:AEx→St→Prop) (v:AV) (ps:Array Tmp) (assign body:Code) (k:List Itm) (t:Nat→AV) (f:Nat→BS) (n:Nat):Prop :=
 match v with
 | .fn (.func gf) fs cap=>sY P gf∧∀r:Loop,I2 P z n ps.size (cut n t) r assign body ps.toList →
  CA P gf (fs++[.yld n]++cap) (ap f n (.obj (.loop r) (cut n t))) (n+1) fun _ f' n'=>∃e,f' n = .obj (.loop (aV r e)) (cut n t)∧wW P z ne Q e k t (ap f' n .dead) n'
 | _=>False
theorem CQ {nr:Nat} {t:Nat→AV} {r:Loop} {K:AV→(Nat→BS)→Nat→Prop} {e:AEx} {t1:Nat→AV} {f1:Nat→BS} {n1:Nat}:E4 nr t r K e ⟨t1,f1,n1⟩=(f1 nr = .obj (.loop (dk r)) t∧K (.bool e.goes) (ap f1 nr (.obj (.loop (aV r e)) t)) n1):=rfl
theorem sh {P:Program} {z:Bool} {nr:Nat} {t:Nat→AV} {r:Loop} {n:Nat} {body:Code} {K:AV→(Nat→BS)→Nat→Prop} {t1:Nat→AV} {f1:Nat→BS} {n1:Nat} :
 AP P z nr t r n body K .normal ⟨t1,f1,n1⟩=(f1 nr = .obj (.loop r) t∧go P z n (E4 nr t r K) [.code body] t1 (ap f1 nr (.obj (.loop (dk r)) t)) n1):=by simp [AP]
theorem rv:AEx.goes .normal=true:=rfl
theorem zV:AEx.goes .ret=false:=rfl
theorem w9 {i:Nat}:AEx.goes (.exit i)=false:=rfl
section
variable {P:Program} {z:Bool} {ne:Nat} {Q:AEx→St→Prop} {k:List Itm} {t:Nat→AV} {f:Nat→BS} {n:Nat}
theorem rt:wW P z ne Q .normal k t f n=go P z ne Q k t f n:=rfl
theorem wX {i:Nat}:wW P z ne Q (.exit i) k t f n=u_ P z ne Q i k t f n:=rfl
theorem zI:wW P z ne Q .ret k t f n=Q .ret ⟨t,f,n⟩:=rfl
theorem B3 {gf:FuncId} {fs cap:List AV} {ps:Array Tmp} {assign body:Code}:El P z ne Q (.fn (.func gf) fs cap) ps assign body k t f n=(sY P gf∧∀r:Loop,I2 P z n ps.size (cut n t) r assign body ps.toList →
 CA P gf (fs++[.yld n]++cap) (ap f n (.obj (.loop r) (cut n t))) (n+1) fun _ f' n'=>∃e,f' n = .obj (.loop (aV r e)) (cut n t)∧wW P z ne Q e k t (ap f' n .dead) n'):=rfl
theorem zT {c:Code}:go P z ne Q [.code c] t f n=fO P z ne c Q ⟨t,f,n⟩:=by
 simp only [go,ly]
 congr 1
 funext e s
 cases e<;>rfl
theorem pS {g:Operand} {ps:Array Tmp} {assign body:Code}:go P z ne Q (.code (.rangeFunc g ps assign body)::k) t f n=El P z ne Q (aS t g) ps assign body k t f n:=by
 have hr:∀r:Loop,I2 P z n ps.size (cut n t) r assign body ps.toList=lR P n ps.size (cut n t) r (fun n=>fO P z n assign) (fun n=>fO P z n body) ps.toList:=by
  intro r
  unfold I2 lR
  simp only [zT]
  have:∀(n1:Nat) (K:AV→(Nat→BS)→Nat→Prop),AP P z n (cut n t) r n1 body K=fun e s1=>e = .normal∧s1.f n = .obj (.loop r) (cut n t) ∧
   fO P z n1 body (fun e s2=>s2.f n = .obj (.loop (dk r)) (cut n t)∧K (.bool e.goes) (ap s2.f n (.obj (.loop (aV r e)) (cut n t))) s2.n) ⟨s1.t,ap s1.f n (.obj (.loop (dk r)) (cut n t)),s1.n⟩:=by
   intro n1 K
   funext e s1
   unfold AP
   rw [zT]
   rfl
  simp only [this]
 have he:∀(e:AEx) (f':Nat→BS) (n':Nat),wW P z ne Q e k t f' n'=(match e with | .normal=>ly P z ne Q k ⟨t,f',n'⟩ | .exit i=>goX P z ne Q i k ⟨t,f',n'⟩ | .ret=>Q .ret ⟨t,f',n'⟩):=by
  intro e f' n'; cases e<;>rfl
 show fO P z ne (.rangeFunc g ps assign body) (fun e s'=>match e with | .normal=>ly P z ne Q k s' | .exit i=>goX P z ne Q i k s' | .ret=>Q .ret s') ⟨t,f,n⟩=_
 simp only [fO,El,hr,he]
 first|done|(generalize aS t g=y; cases y<;>first|rfl|(rename_i fn _ _; cases fn<;>rfl))
end
theorem GQ:dP []=fun _=>AV.any:=rfl
theorem GR (a:AV):dP [a]=ap (fun _ => .any) 0 a:=by
 funext k; unfold dP ap
 match k with
 | 0=>rfl
 | k+1=>simp
theorem GS (a b:AV):dP [a,b]=ap (ap (fun _ => .any) 0 a) 1 b:=by
 funext k; unfold dP ap
 match k with
 | 0=>rfl
 | 1=>rfl
 | k+2=>simp
theorem GT (a b c:AV):dP [a,b,c]=ap (ap (ap (fun _ => .any) 0 a) 1 b) 2 c:=by
 funext k; unfold dP ap
 match k with
 | 0=>rfl
 | 1=>rfl
 | 2=>rfl
 | k+3=>simp
theorem GU (a b c d:AV):dP [a,b,c,d]=ap (ap (ap (ap (fun _ => .any) 0 a) 1 b) 2 c) 3 d:=by
 funext k; unfold dP ap
 match k with
 | 0=>rfl
 | 1=>rfl
 | 2=>rfl
 | 3=>rfl
 | k+4=>simp
open Go
set_option linter.unusedSimpArgs false
set_option linter.unusedVariables false
attribute [go_sem] AM sg AK sf Ey Cb zO EA Et B7 BY zD BX zC BZ Ej EB zL zU wZ tH B6 zo tG jA zK zF zE zu zv zB ru pS B3 rt wX zI CQ sh rv zV w9 zH B1 zG wV GQ GR GS GT GU
@[go_sem] theorem LE (n0 i n:Nat):nK false n0 i n=n:=rfl
@[go_sem] theorem LF (n0 i n:Nat):nK true n0 i n=n0+i:=rfl
@[go_sem] theorem LG (n:Nat):jG false n=n+1:=rfl
@[go_sem] theorem LH (n:Nat):jG true n=n:=rfl
@[go_sem] theorem LB (n:Nat) (f:Nat→BS) (j:Nat):dB n f j=if j<n then ll (f j) else f j:=rfl
@[go_sem] theorem Ed:ll .fresh = .dead:=rfl
@[go_sem] theorem F6:ll .dead = .dead:=rfl
@[go_sem] theorem F7 (sz:Nat) (l:List AV):ll (.live sz l) = .live sz l:=rfl
@[go_sem] theorem HC (o:Obj) (t:Nat→AV):ll (.obj o t) = .obj o t:=rfl
attribute [go_sem] qp
@[go_sem] theorem KO (n:Nat) (t:Nat→AV) (k:Nat):cut n t k=cl n (t k):=rfl
@[go_sem] theorem KA (n:Nat):cl n .any = .any:=rfl
@[go_sem] theorem Jd (n:Nat) (b:Bool):cl n (.bool b) = .bool b:=rfl
@[go_sem] theorem KB (n:Nat) (k:IntKind) (m:Int):cl n (.int k m) = .int k m:=rfl
@[go_sem] theorem KF (n:Nat) (s:ByteArray):cl n (.str s) = .str s:=rfl
@[go_sem] theorem Je (n:Nat):cl n .nilp = .nilp:=rfl
@[go_sem] theorem KE (n id idx off:Nat):cl n (.ptr id idx off)=if id<n then .ptr id idx off else .any:=by
 simp only [cl,dQ]; by_cases h:id<n<;>simp [h]
@[go_sem] theorem KC (n sz id off len:Nat):cl n (.own sz id off len)=if id<n then .own sz id off len else .any:=by
 simp only [cl,dQ]; by_cases h:id<n<;>simp [h]
@[go_sem] theorem KH (n id:Nat):cl n (.yld id)=if id<n then .yld id else .any:=by
 simp only [cl,dQ]; by_cases h:id<n<;>simp [h]
@[go_sem] theorem Ly (n id:Nat):cl n (.mp id)=if id<n then .mp id else .any:=by
 simp only [cl,dQ]; by_cases h:id<n<;>simp [h]
@[go_sem] theorem Kz (n:Nat) (cs:List AV):cl n (.agg cs)=if cloTL n cs=true then .agg cs else .any:=by
 simp only [cl,dQ]; cases cloTL n cs<;>rfl
@[go_sem] theorem LA (n sz:Nat) (tg:Bool) (cs:List AV):cl n (.sl sz tg cs)=if cloTL n cs=true then .sl sz tg cs else .any:=by
 simp only [cl,dQ]; cases cloTL n cs<;>rfl
@[go_sem] theorem Lz (n:Nat) (cs:List AV):cl n (.rp cs)=if cloTL n cs=true then .rp cs else .any:=by
 simp only [cl,dQ]; cases cloTL n cs<;>rfl
@[go_sem] theorem KG (n:Nat) (cs:List AV):cl n (.tup cs)=if cloTL n cs=true then .tup cs else .any:=by
 simp only [cl,dQ]; cases cloTL n cs<;>rfl
@[go_sem] theorem Lx (n:Nat) (g:Fn) (fs cap:List AV):cl n (.fn g fs cap)=if (cloTL n fs && cloTL n cap)=true then .fn g fs cap else .any:=by
 simp only [cl,dQ]; cases cloTL n fs<;>cases cloTL n cap<;>rfl
attribute [go_sem] dQ cloTL
@[go_sem] theorem Bm {α:Type} (g:Nat→α) (i:Nat) (x:α) (j:Nat):ap g i x j=if j=i then x else g j:=rfl
@[go_sem] theorem I6 (t:Nat→AV) (k:Nat):aS t (.tmp k)=t k:=rfl
@[go_sem] theorem I3 (t:Nat→AV) (k:IntKind) (n:Int):aS t (.const (.int k n)) = .int k n:=rfl
@[go_sem] theorem GH (t:Nat→AV) (b:Bool):aS t (.const (.bool b)) = .bool b:=rfl
@[go_sem] theorem I5 (t:Nat→AV) (s:ByteArray):aS t (.const (.string s)) = .str s:=rfl
@[go_sem] theorem I4 (t:Nat→AV):aS t (.const (.slice none 0 0)) = .sl 0 true []:=rfl
@[go_sem] theorem GK (t:Nat→AV):aS t (.const (.pointer none)) = .nilp:=rfl
@[go_sem] theorem GJ (t:Nat→AV):aS t (.const .nilFunc) = .any:=rfl
@[go_sem] theorem GI (t:Nat→AV) (g:FuncId):aS t (.func g) = .fn (.func g) [] []:=rfl
@[go_sem] theorem Gv (t:Nat→AV) (d:Nat) (v:AV):ay t (some d) v=ap t d v:=rfl
@[go_sem] theorem Gu (t:Nat→AV) (v:AV):ay t none v=t:=rfl
def AD (c a b:AV):er:=match c with
 | .bool t=>some (True,if t then a else b)
 | _=>none
@[go_sem] theorem ES (a b:AV):AD (.bool true) a b=some (True,a):=rfl
@[go_sem] theorem Dz (a b:AV):AD (.bool false) a b=some (True,b):=rfl
def pq (P:Program) (op:BinOp) (t:TypeId) (x y:AV):er:=match x with
 | .bool a=>match ai P t with
  | some ti=>match ti.kind with
   | .bool=>aY op (.bool a) y
   | _=>none
  | none=>none
 | .int k a=>aY op (.int k a) y
 | .str a=>aY op (.str a) y
 | .agg cs=>qY P op t cs y
 | _=>none
@[go_sem] theorem G_ (P:Program) (op:BinOp) (t:TypeId) (cs:List AV) (y:AV):pq P op t (.agg cs) y=qY P op t cs y:=rfl
@[go_sem] theorem Ha (P:Program) (op:BinOp) (t:TypeId) (k:IntKind) (a:Int) (y:AV):pq P op t (.int k a) y=aY op (.int k a) y:=rfl
@[go_sem] theorem Hb (P:Program) (op:BinOp) (t:TypeId) (a:ByteArray) (y:AV):pq P op t (.str a) y=aY op (.str a) y:=rfl
def yI (x:Option TI) (r:er):er:=match x with
 | some ti=>match ti.kind with
  | .bool=>r
  | _=>none
 | none=>none
@[go_sem] theorem DX (a b:Nat) (z:List AV) (r:er):yI (some ⟨a,b,.bool,z⟩) r=r:=rfl
@[go_sem] theorem FJ (P:Program) (op:BinOp) (t:TypeId) (a:Bool) (y:AV):pq P op t (.bool a) y=yI (ai P t) (aY op (.bool a) y):=by
 simp only [pq,yI]
def wg (k:IntKind) (a b:Int):Int:=k.wrap ((BitVec.ofInt k.bits a &&& BitVec.ofInt k.bits b).toNat)
def Dw (k:IntKind) (a b:Int):Int:=k.wrap ((BitVec.ofInt k.bits a ||| BitVec.ofInt k.bits b).toNat)
def IZ (k:IntKind) (a b:Int):Int:=k.wrap ((BitVec.ofInt k.bits a ^^^ BitVec.ofInt k.bits b).toNat)
section
variable (k:IntKind) (a b:Int) (k':IntKind)
@[go_sem] theorem G6:aY .shl (.int k a) (.int k' b)=some (0≤b,.int k (k.wrap (a*2 ^ (min b.toNat k.bits)))):=rfl
@[go_sem] theorem G7:aY .shr (.int k a) (.int k' b)=some (0≤b,.int k (a.fdiv (2 ^ (min b.toNat k.bits)))):=rfl
@[go_sem] theorem GV:aY .add (.int k a) (.int k b)=some (True,.int k (k.wrap (a+b))):=by simp [aY]
@[go_sem] theorem G8:aY .sub (.int k a) (.int k b)=some (True,.int k (k.wrap (a-b))):=by simp [aY]
@[go_sem] theorem G2:aY .mul (.int k a) (.int k b)=some (True,.int k (k.wrap (a*b))):=by simp [aY]
@[go_sem] theorem G4:aY .quo (.int k a) (.int k b)=some (b≠0,.int k (k.wrap (a.tdiv b))):=by simp [aY]
@[go_sem] theorem G5:aY .rem (.int k a) (.int k b)=some (b≠0,.int k (a.tmod b)):=by simp [aY]
@[go_sem] theorem GW:aY .and (.int k a) (.int k b)=some (True,.int k (wg k a b)):=by simp [aY,wg]
@[go_sem] theorem I_:aY .or (.int k a) (.int k b)=some (True,.int k (Dw k a b)):=by simp [aY,Dw]
@[go_sem] theorem G9:aY .xor (.int k a) (.int k b)=some (True,.int k (IZ k a b)):=by simp [aY,IZ]
@[go_sem] theorem GX:aY .eql (.int k a) (.int k b)=some (True,.bool (decide (a=b))):=by simp [aY]
@[go_sem] theorem G3:aY .neq (.int k a) (.int k b)=some (True,.bool (!decide (a=b))):=by simp [aY]
@[go_sem] theorem G1:aY .lss (.int k a) (.int k b)=some (True,.bool (decide (a<b))):=by simp [aY]
@[go_sem] theorem G0:aY .leq (.int k a) (.int k b)=some (True,.bool (decide (a≤b))):=by simp [aY]
@[go_sem] theorem GZ:aY .gtr (.int k a) (.int k b)=some (True,.bool (decide (a > b))):=by simp [aY]
@[go_sem] theorem GY:aY .geq (.int k a) (.int k b)=some (True,.bool (decide (a≥b))):=by simp [aY]
end
@[go_sem] theorem FG (a b:ByteArray):aY .add (.str a) (.str b)=some (((a.size+b.size:Nat):Int)≤9223372036854775807,.str (a++b)):=rfl
@[go_sem] theorem FH (a b:ByteArray):aY .eql (.str a) (.str b)=some (True,.bool (a.toList == b.toList)):=rfl
@[go_sem] theorem FI (a b:ByteArray):aY .neq (.str a) (.str b)=some (True,.bool (!(a.toList == b.toList))):=rfl
@[go_sem] theorem FE (a b:Bool):aY .eql (.bool a) (.bool b)=some (True,.bool (a == b)):=rfl
@[go_sem] theorem FF (a b:Bool):aY .neq (.bool a) (.bool b)=some (True,.bool (!(a == b))):=rfl
@[go_sem] theorem Ki (b:Bool):C6 .not (.bool b)=some (True,.bool (!b)):=rfl
@[go_sem] theorem Kh (k:IntKind) (n:Int):C6 .neg (.int k n)=some (True,.int k (k.wrap (0-n))):=rfl
@[go_sem] theorem Kj (k:IntKind) (n:Int):C6 .xor (.int k n)=some (True,.int k (k.wrap ((BitVec.ofInt k.bits (if k.signed then -1 else k.max) ^^^ BitVec.ofInt k.bits n).toNat))):=rfl
@[go_sem] theorem FZ (P:Program) (f:Nat→BS) (x:TI) (a b:Nat) (k:IntKind) (z:List AV) (k':IntKind) (n:Int):iS P f (some x) (some ⟨a,b,.int k,z⟩) (.int k' n)=some (True,.int k (k.wrap n)):=rfl
@[go_sem] theorem Hn (P:Program) (f:Nat→BS) (a b:Nat) (e:TypeId) (z:List AV) (a' b':Nat) (z':List AV) (sz:Nat) (tg:Bool) (l:List AV):iS P f (some ⟨a,b,.slice e,z⟩) (some ⟨a',b',.string,z'⟩) (.sl sz tg l)=qH (q8 (ai P e)) (some l) (sz=1):=rfl
@[go_sem] theorem DZ (a b:Nat) (z:List AV):q8 (some ⟨a,b,.int .u8,z⟩)=true:=rfl
@[go_sem] theorem Kf:yq []=some []:=rfl
@[go_sem] theorem IM (n:Int) (l:List AV):yq (.int .u8 n::l)=(yq l).map (n :: ·):=rfl
@[go_sem] theorem Gz (ns:List Int) (l:List AV) (p:Prop) (h:yq l=some ns):qH true (some l) p=some (ns≠[]∧p,.str (Bb ns)):=by
 simp only [qH,Option.bind_some,h]
def gU (x:Option TI) (i:Nat):Option (Nat×TypeId):=match x with
 | some ti=>match ti.kind with
  | .struct fs=>fs[i]?
  | _=>none
 | none=>none
@[go_sem] theorem Bq (a b:Nat) (fs:List (Nat×TypeId)) (z:List AV) (i:Nat):gU (some ⟨a,b,.struct fs,z⟩) i=fs[i]?:=rfl
def kb (P:Program) (x:Option (Nat×TypeId)) (v:AV):er:=match x with
 | some (off,t)=>match ai P t with
  | some tf=>if tf.size=0 then none else match v with
   | .ptr id idx o=>some (True,.ptr id idx (o+off))
   | .rp cs=>some (True,.rp (cs.drop off))
   | _=>none
  | none=>none
 | none=>none
def nt (x:Option TI) (r:er):er:=match x with
 | some tf=>if tf.size=0 then none else r
 | none=>none
@[go_sem] theorem DG (a b:Nat) (kd:TK) (z:List AV) (r:er):nt (some ⟨a,b,kd,z⟩) r=if a=0 then none else r:=rfl
@[go_sem] theorem D_ (P:Program) (off:Nat) (t:TypeId) (id idx o:Nat):kb P (some (off,t)) (.ptr id idx o)=nt (ai P t) (some (True,.ptr id idx (o+off))):=by
 simp only [kb,nt]
@[go_sem] theorem F4 (P:Program) (off:Nat) (t:TypeId) (cs:List AV):kb P (some (off,t)) (.rp cs)=nt (ai P t) (some (True,.rp (cs.drop off))):=by
 simp only [kb,nt]
def pJ (P:Program) (x:Option (Nat×TypeId)) (v:AV):er:=match x with
 | some (off,t)=>match ai P t,v with
  | some tf,.agg cs=>some (off+tf.size≤cs.length,cS tf.kind.agg ((cs.drop off).take tf.size))
  | _,_=>none
 | none=>none
def tY (x:Option TI) (off:Nat) (cs:List AV):er:=match x with
 | some tf=>some (off+tf.size≤cs.length,cS tf.kind.agg ((cs.drop off).take tf.size))
 | none=>none
@[go_sem] theorem Dx (a b:Nat) (kd:TK) (z:List AV) (off:Nat) (cs:List AV):tY (some ⟨a,b,kd,z⟩) off cs=some (off+a≤cs.length,cS kd.agg ((cs.drop off).take a)):=rfl
@[go_sem] theorem Eb (P:Program) (off:Nat) (t:TypeId) (cs:List AV):pJ P (some (off,t)) (.agg cs)=tY (ai P t) off cs:=by
 simp only [pJ,tY]
 cases ai P t<;>rfl
@[go_sem] theorem DU (fs:List (Nat×TypeId)):(TK.struct fs).agg=true:=rfl
@[go_sem] theorem FA (n:Nat) (e:TypeId):(TK.array n e).agg=true:=rfl
@[go_sem] theorem I7 (k:IntKind):(TK.int k).agg=false:=rfl
@[go_sem] theorem GL:TK.bool.agg=false:=rfl
@[go_sem] theorem DT:TK.string.agg=false:=rfl
@[go_sem] theorem FC (e:TypeId):(TK.slice e).agg=false:=rfl
@[go_sem] theorem Dd (e:TypeId):(TK.pointer e).agg=false:=rfl
@[go_sem] theorem GM:TK.func.agg=false:=rfl
@[go_sem] theorem FB:TK.other.agg=false:=rfl
@[go_sem] theorem Gs (cs:List AV):cS true cs = .agg cs:=rfl
@[go_sem] theorem ER (c:AV) (cs:List AV):cS false (c::cs)=c:=rfl
def j_ (P:Program) (x:Option TI):Option TI:=match x with
 | some ti=>match ti.kind with
  | .slice e=>ai P e
  | _=>none
 | none=>none
@[go_sem] theorem Dh (P:Program) (a b:Nat) (e:TypeId) (z:List AV):j_ P (some ⟨a,b,.slice e,z⟩)=ai P e:=rfl
def pW (P:Program) (ti:Option TI) (x i:AV):er :=
 match ti,x,i with
 | some ti,.sl sz _ l,.int _ i=>match ti.kind with
  | .slice e=>match ai P e with
   | some te=>if te.size=sz then some (0≤i∧i<(l.length:Int),.rp (aX l i).cells) else none
   | none=>none
  | _=>none
 | some ti,.own sz id off len,.int _ i=>match ti.kind with
  | .slice e=>match ai P e with
   | some te=>if te.size=sz then some (0≤i∧i<(len:Int),.ptr id (off+i.toNat) 0) else none
   | none=>none
  | _=>none
 | some ti,.ptr id idx off,.int _ i=>match ti.kind with
  | .array n e=>match ai P e with
   | some te=>some (0≤i∧i<(n:Int),.ptr id idx (off+i.toNat*te.size))
   | none=>none
  | _=>none
 | some ti,.rp cs,.int _ i=>match ti.kind with
  | .array n e=>match ai P e with
   | some te=>some (0≤i∧i<(n:Int),.rp (cs.drop (i.toNat*te.size)))
   | none=>none
  | _=>none
 | _,_,_=>none
def sE (x:Option TI) (sz:Nat) (r:er):er:=match x with
 | some te=>if te.size=sz then r else none
 | none=>none
@[go_sem] theorem GA (a b:Nat) (kd:TK) (z:List AV) (r:er):sE (some ⟨a,b,kd,z⟩) a r=r:=by simp [sE]
def nG (x:Option TI) (r:Nat→er):er:=match x with
 | some te=>r te.size
 | none=>none
@[go_sem] theorem DL (a b:Nat) (kd:TK) (z:List AV) (r:Nat→er):nG (some ⟨a,b,kd,z⟩) r=r a:=rfl
@[go_sem] theorem JH (P:Program) (a b:Nat) (e:TypeId) (z:List AV) (sz:Nat) (tg:Bool) (l:List AV) (k:IntKind) (i:Int) :
 pW P (some ⟨a,b,.slice e,z⟩) (.sl sz tg l) (.int k i)=sE (ai P e) sz (some (0≤i∧i<(l.length:Int),.rp (aX l i).cells)):=by
 simp only [pW,sE]
@[go_sem] theorem HX (P:Program) (a b:Nat) (e:TypeId) (z:List AV) (sz id off len:Nat) (k:IntKind) (i:Int) :
 pW P (some ⟨a,b,.slice e,z⟩) (.own sz id off len) (.int k i)=sE (ai P e) sz (some (0≤i∧i<(len:Int),.ptr id (off+i.toNat) 0)):=by
 simp only [pW,sE]
@[go_sem] theorem HY (P:Program) (a b m:Nat) (e:TypeId) (z:List AV) (id idx off:Nat) (k:IntKind) (i:Int) :
 pW P (some ⟨a,b,.array m e,z⟩) (.ptr id idx off) (.int k i)=nG (ai P e) fun s=>some (0≤i∧i<(m:Int),.ptr id idx (off+i.toNat*s)):=by
 simp only [pW,nG]
@[go_sem] theorem JG (P:Program) (a b m:Nat) (e:TypeId) (z:List AV) (cs:List AV) (k:IntKind) (i:Int) :
 pW P (some ⟨a,b,.array m e,z⟩) (.rp cs) (.int k i)=nG (ai P e) fun s=>some (0≤i∧i<(m:Int),.rp (cs.drop (i.toNat*s))):=by
 simp only [pW,nG]
def pY (P:Program) (ti:Option TI) (x i:AV):er :=
 match ti,x,i with
 | some ti,.str s,.int _ i=>match ti.kind with
  | .string=>some (0≤i∧i<(s.size:Int),.int .u8 ((s.data.toList.getD i.toNat 0).toNat:Nat))
  | _=>none
 | some ti,.agg cs,.int _ i=>match ti.kind with
  | .array n e=>match ai P e with
   | some te=>some (0≤i∧i<(n:Int)∧i.toNat*te.size+te.size≤cs.length,cS te.kind.agg ((cs.drop (i.toNat*te.size)).take te.size))
   | none=>none
  | _=>none
 | _,_,_=>none
def Mg (s:ByteArray):List UInt8:=s.data.toList
def bt (s:ByteArray) (p:Nat):Nat:=((Mg s).getD p 0).toNat
@[go_sem] theorem EH (P:Program) (a b:Nat) (z:List AV) (s:ByteArray) (k:IntKind) (i:Int) :
 pY P (some ⟨a,b,.string,z⟩) (.str s) (.int k i)=some (0≤i∧i<(s.size:Int),.int .u8 (bt s i.toNat:Nat)):=rfl
def DV (x:Option TI) (n:Nat) (cs:List AV) (i:Int):er:=match x with
 | some te=>some (0≤i∧i<(n:Int)∧i.toNat*te.size+te.size≤cs.length,cS te.kind.agg ((cs.drop (i.toNat*te.size)).take te.size))
 | none=>none
@[go_sem] theorem FD (a b:Nat) (kd:TK) (z:List AV) (n:Nat) (cs:List AV) (i:Int):DV (some ⟨a,b,kd,z⟩) n cs i=some (0≤i∧i<(n:Int)∧i.toNat*a+a≤cs.length,cS kd.agg ((cs.drop (i.toNat*a)).take a)):=rfl
@[go_sem] theorem EG (P:Program) (a b m:Nat) (e:TypeId) (z:List AV) (cs:List AV) (k:IntKind) (i:Int) :
 pY P (some ⟨a,b,.array m e,z⟩) (.agg cs) (.int k i)=DV (ai P e) m cs i:=by
 simp only [pY,DV]
def Dk (x:AV) (i:Nat):er:=match x with
 | .tup cs=>some (i<cs.length,cs.getD i .any)
 | _=>none
@[go_sem] theorem F3 (cs:List AV) (i:Nat):Dk (.tup cs) i=some (i<cs.length,cs.getD i .any):=rfl
def jy (place:Nat→Option (Nat×Nat)):List (Nat×AV)→List AV→Option (List AV)
 | [],cs=>some cs
 | (i,x)::r,cs =>
  match place i with
  | none=>none
  | some (off,size)=>if x.shaped size && decide (off+size≤cs.length) then jy place r (cs.take off++x.cells++cs.drop (off+size)) else none
theorem uP (place:Nat→Option (Nat×Nat)) (ρ:Operand→AV):∀(l:List (Nat×Operand)) (cs:List AV),fp place ρ l cs=jy place (l.map fun p=>(p.1,ρ p.2)) cs
 | [],cs=>rfl
 | (i,x)::l,cs=>by
  simp only [fp,List.map_cons,jy]
  cases place i with
  | none=>rfl
  | some q =>
   obtain ⟨off,size⟩:=q
   simp only [uP place ρ l]
def Ci (p:Option (Nat×Nat)) (x:AV) (cs:List AV):Option (List AV):=match p with
 | some (off,size)=>if x.shaped size && decide (off+size≤cs.length) then some (cs.take off++x.cells++cs.drop (off+size)) else none
 | none=>none
def rG (P:Program) (fs:List (Nat×TypeId)):List (Nat×AV)→Option (List AV)→Option (List AV)
 | [],cs=>cs
 | (i,x)::r,some cs=>rG P fs r (Ci ((fs[i]?).bind fun p=>(ai P p.2).map fun tf=>(p.1,tf.size)) x cs)
 | _::_,none=>none
theorem oE (P:Program) (fs:List (Nat×TypeId)):∀(l:List (Nat×AV)) (cs:List AV),jy (fun i=>(fs[i]?).bind fun p=>(ai P p.2).map fun tf=>(p.1,tf.size)) l cs=rG P fs l (some cs)
 | [],cs=>rfl
 | (i,x)::l,cs=>by
  simp only [jy,rG,Ci]
  cases (fs[i]?).bind fun p=>(ai P p.2).map fun tf=>(p.1,tf.size) with
  | none=>cases l<;>rfl
  | some q =>
   obtain ⟨off,size⟩:=q
   simp only
   split
   ·exact oE P fs l _
   ·cases l<;>rfl
@[go_sem] theorem H4 (P:Program) (fs:List (Nat×TypeId)) (cs:List AV):rG P fs [] (some cs)=some cs:=rfl
@[go_sem] theorem Gj (P:Program) (fs:List (Nat×TypeId)) (i:Nat) (x:AV) (r:List (Nat×AV)) (cs:List AV):rG P fs ((i,x)::r) (some cs)=rG P fs r (Ci ((fs[i]?).bind fun p=>(ai P p.2).map fun tf=>(p.1,tf.size)) x cs):=rfl
@[go_sem] theorem Gi (off size:Nat) (x:AV) (cs:List AV):Ci (some (off,size)) x cs=if x.shaped size && decide (off+size≤cs.length) then some (cs.take off++x.cells++cs.drop (off+size)) else none:=rfl
def fR (P:Program) (x:Option TI) (parts:List (Nat×AV)):er:=match x with
 | some ti=>match ti.kind with
  | .struct fs=>(rG P fs parts (some ti.zero)).map fun cs=>(True,.agg cs)
  | .array _ e=>match ai P e with
   | some te=>(jy (fun i=>some (i*te.size,te.size)) parts ti.zero).map fun cs=>(True,.agg cs)
   | none=>none
  | _=>none
 | none=>none
@[go_sem] theorem Bp (P:Program) (a b:Nat) (fs:List (Nat×TypeId)) (z:List AV) (parts:List (Nat×AV)):fR P (some ⟨a,b,.struct fs,z⟩) parts=(rG P fs parts (some z)).map fun cs=>(True,.agg cs):=rfl
@[go_sem] theorem E9 (cs:List AV) (n:Nat):(AV.agg cs).shaped n=(cs.length == n):=rfl
@[go_sem] theorem DE (b:Bool) (n:Nat):(AV.bool b).shaped n=(n == 1):=by simp [AV.shaped,AV.sca]
@[go_sem] theorem E_ (k:IntKind) (m:Int) (n:Nat):(AV.int k m).shaped n=(n == 1):=by simp [AV.shaped,AV.sca]
@[go_sem] theorem Fc (s:ByteArray) (n:Nat):(AV.str s).shaped n=(n == 1):=by simp [AV.shaped,AV.sca]
@[go_sem] theorem Gy (a:Nat) (b:Bool) (l:List AV) (n:Nat):(AV.sl a b l).shaped n=(n == 1):=by simp [AV.shaped,AV.sca]
@[go_sem] theorem Fa (a b c d:Nat) (n:Nat):(AV.own a b c d).shaped n=(n == 1):=by simp [AV.shaped,AV.sca]
@[go_sem] theorem Fb (a b c:Nat) (n:Nat):(AV.ptr a b c).shaped n=(n == 1):=by simp [AV.shaped,AV.sca]
@[go_sem] theorem Gx (cs:List AV) (n:Nat):(AV.rp cs).shaped n=(n == 1):=by simp [AV.shaped,AV.sca]
@[go_sem] theorem Gw (g:Fn) (a b:List AV) (n:Nat):(AV.fn g a b).shaped n=(n == 1):=by simp [AV.shaped,AV.sca]
@[go_sem] theorem DF (n:Nat):(AV.nilp).shaped n=(n == 1):=by simp [AV.shaped,AV.sca]
@[go_sem] theorem FO (cs:List AV):(AV.agg cs).cells=cs:=rfl
@[go_sem] theorem D0 (b:Bool):(AV.bool b).cells=[.bool b]:=rfl
@[go_sem] theorem FQ (k:IntKind) (m:Int):(AV.int k m).cells=[.int k m]:=rfl
@[go_sem] theorem FU (s:ByteArray):(AV.str s).cells=[.str s]:=rfl
@[go_sem] theorem Hi (a:Nat) (b:Bool) (l:List AV):(AV.sl a b l).cells=[.sl a b l]:=rfl
@[go_sem] theorem FS (a b c d:Nat):(AV.own a b c d).cells=[.own a b c d]:=rfl
@[go_sem] theorem FT (a b c:Nat):(AV.ptr a b c).cells=[.ptr a b c]:=rfl
@[go_sem] theorem Hh (cs:List AV):(AV.rp cs).cells=[.rp cs]:=rfl
@[go_sem] theorem Hg (g:Fn) (a b:List AV):(AV.fn g a b).cells=[.fn g a b]:=rfl
@[go_sem] theorem D3:(AV.nilp).cells=[.nilp]:=rfl
@[go_sem] theorem FP:(AV.any).cells=[.any]:=rfl
@[go_sem] theorem JK (cs:List AV) (off:Nat) (new:List AV):(AV.agg cs).lay off new = .agg (cs.take off++new++cs.drop (off+new.length)):=rfl
@[go_sem] theorem H5 (b:Bool) (off:Nat) (v:AV):(AV.bool b).lay off [v]=v:=rfl
@[go_sem] theorem JM (k:IntKind) (m:Int) (off:Nat) (v:AV):(AV.int k m).lay off [v]=v:=rfl
@[go_sem] theorem JP (s:ByteArray) (off:Nat) (v:AV):(AV.str s).lay off [v]=v:=rfl
@[go_sem] theorem K5 (a:Nat) (b:Bool) (l:List AV) (off:Nat) (v:AV):(AV.sl a b l).lay off [v]=v:=rfl
@[go_sem] theorem JN (a b c d:Nat) (off:Nat) (v:AV):(AV.own a b c d).lay off [v]=v:=rfl
@[go_sem] theorem JO (a b c:Nat) (off:Nat) (v:AV):(AV.ptr a b c).lay off [v]=v:=rfl
@[go_sem] theorem K4 (cs:List AV) (off:Nat) (v:AV):(AV.rp cs).lay off [v]=v:=rfl
@[go_sem] theorem K3 (g:Fn) (a b:List AV) (off:Nat) (v:AV):(AV.fn g a b).lay off [v]=v:=rfl
@[go_sem] theorem H6 (off:Nat) (v:AV):(AV.nilp).lay off [v]=v:=rfl
def tU (x:AV):er:=match x with
 | .ptr id idx off=>some (True,.ptr id idx off)
 | .rp cs=>some (True,.rp cs)
 | _=>none
@[go_sem] theorem EL (id idx off:Nat):tU (.ptr id idx off)=some (True,.ptr id idx off):=rfl
@[go_sem] theorem Gr (cs:List AV):tU (.rp cs)=some (True,.rp cs):=rfl
def wA:Option AV→Option (Option Int)
 | none=>some none
 | some (.int _ n)=>some (some n)
 | _=>none
@[go_sem] theorem FK:wA none=some none:=rfl
@[go_sem] theorem Hc (k:IntKind) (n:Int):wA (some (.int k n))=some (some n):=rfl
def Ff (P:Program) (x:Option TI) (v:AV) (lo hi mx:Option (Option Int)):er :=
 match x,lo,hi,mx with
 | some ti,some lo,some hi,some mx=>match ti.kind,v with
  | .slice e,.sl sz tight l=>match ai P e with
   | some te=>if te.size=sz∨l=[] then (if mx.isSome && hi.isNone then none else co (.sl sz tight l) lo hi mx) else none
   | none=>none
  | .slice e,.own sz id off len=>match ai P e with
   | some te=>if te.size=sz then (if mx.isSome && hi.isNone then none else co (.own sz id off len) lo hi mx) else none
   | none=>none
  | .string,.str s=>co (.str s) lo hi mx
  | _,_=>none
 | _,_,_,_=>none
def xX (x:Option TI) (sz:Nat) (l:List AV) (r:er):er:=match x with
 | some te=>if te.size=sz∨l=[] then r else none
 | none=>none
@[go_sem] theorem GB (a b:Nat) (kd:TK) (z:List AV) (l:List AV) (r:er):xX (some ⟨a,b,kd,z⟩) a l r=r:=by simp [xX]
@[go_sem] theorem IJ (a b:Nat) (kd:TK) (z:List AV) (sz:Nat) (r:er):xX (some ⟨a,b,kd,z⟩) sz [] r=r:=by simp [xX]
@[go_sem] theorem Ln (P:Program) (a b:Nat) (e:TypeId) (z:List AV) (sz:Nat) (tg:Bool) (l:List AV) (lo hi mx:Option Int) :
 Ff P (some ⟨a,b,.slice e,z⟩) (.sl sz tg l) (some lo) (some hi) (some mx)=xX (ai P e) sz l (if mx.isSome && hi.isNone then none else co (.sl sz tg l) lo hi mx):=by
 simp only [Ff,xX]
@[go_sem] theorem Kc (P:Program) (a b:Nat) (e:TypeId) (z:List AV) (sz id off len:Nat) (lo hi mx:Option Int) :
 Ff P (some ⟨a,b,.slice e,z⟩) (.own sz id off len) (some lo) (some hi) (some mx)=sE (ai P e) sz (if mx.isSome && hi.isNone then none else co (.own sz id off len) lo hi mx):=by
 simp only [Ff,sE]
@[go_sem] theorem Kd (P:Program) (a b:Nat) (z:List AV) (s:ByteArray) (lo hi mx:Option Int):Ff P (some ⟨a,b,.string,z⟩) (.str s) (some lo) (some hi) (some mx)=co (.str s) lo hi mx:=rfl
attribute [go_sem] co qe
def Ac (x:Option TI) (v:AV):er:=match x,v with
 | some ti,.str s=>match ti.kind with
  | .string=>some (True,.int .i64 s.size)
  | _=>none
 | some ti,.sl _ _ l=>match ti.kind with
  | .slice _=>some (True,.int .i64 l.length)
  | _=>none
 | some ti,.own _ _ _ len=>match ti.kind with
  | .slice _=>some (True,.int .i64 len)
  | _=>none
 | some ti,_=>match ti.kind with
  | .array n _=>some (True,.int .i64 n)
  | _=>none
 | _,_=>none
@[go_sem] theorem Ia (a b:Nat) (z:List AV) (s:ByteArray):Ac (some ⟨a,b,.string,z⟩) (.str s)=some (True,.int .i64 s.size):=rfl
@[go_sem] theorem JQ (a b:Nat) (e:TypeId) (z:List AV) (sz:Nat) (tg:Bool) (l:List AV):Ac (some ⟨a,b,.slice e,z⟩) (.sl sz tg l)=some (True,.int .i64 l.length):=rfl
@[go_sem] theorem H_ (a b:Nat) (e:TypeId) (z:List AV) (sz id off len:Nat):Ac (some ⟨a,b,.slice e,z⟩) (.own sz id off len)=some (True,.int .i64 len):=rfl
def Id (x y:AV):er:=match x,y with
 | .int k a,.int _ b=>some (True,.int k (if b > a then b else a))
 | _,_=>none
def Ig (x y:AV):er:=match x,y with
 | .int k a,.int _ b=>some (True,.int k (if b<a then b else a))
 | _,_=>none
@[go_sem] theorem Ie (k:IntKind) (a:Int) (k':IntKind) (b:Int):Id (.int k a) (.int k' b)=some (True,.int k (if b > a then b else a)):=rfl
@[go_sem] theorem Ih (k:IntKind) (a:Int) (k':IntKind) (b:Int):Ig (.int k a) (.int k' b)=some (True,.int k (if b<a then b else a)):=rfl
def vq (x:Option TI) (f:Nat→BS) (v:AV):er:=match x,v with
 | some ti,.rp cs=>some (ti.size≤cs.length∧(ti.kind.agg=true∨0<cs.length),cS ti.kind.agg (if ti.kind.agg then cs.take ti.size else cs))
 | some ti,.ptr id idx off=>match f id with
  | .live _ l=>let cs:=(l.getD idx .any).cells.drop off
   some (idx<l.length∧ti.size≤cs.length∧(ti.kind.agg=true∨0<cs.length),cS ti.kind.agg (if ti.kind.agg then cs.take ti.size else cs))
  | _=>none
 | _,_=>none
def rK (a:Nat) (g:Bool) (cs:List AV):er:=some (a≤cs.length∧(g=true∨0<cs.length),cS g (if g then cs.take a else cs))
def oG (a:Nat) (g:Bool) (b:BS) (idx off:Nat):er:=match b with
 | .live _ l=>some (idx<l.length∧a≤((l.getD idx .any).cells.drop off).length∧(g=true∨0<((l.getD idx .any).cells.drop off).length),cS g (if g then ((l.getD idx .any).cells.drop off).take a else (l.getD idx .any).cells.drop off))
 | _=>none
@[go_sem] theorem Ib (a b:Nat) (kd:TK) (z:List AV) (f:Nat→BS) (cs:List AV):vq (some ⟨a,b,kd,z⟩) f (.rp cs)=rK a kd.agg cs:=rfl
@[go_sem] theorem Gp (a b:Nat) (kd:TK) (z:List AV) (f:Nat→BS) (id idx off:Nat):vq (some ⟨a,b,kd,z⟩) f (.ptr id idx off)=oG a kd.agg (f id) idx off:=by
 simp only [vq,oG]
@[go_sem] theorem Gk (a:Nat) (cs:List AV):rK a true cs=some (a≤cs.length,.agg (cs.take a)):=by simp [rK,cS]
@[go_sem] theorem Gl (c:AV) (cs:List AV):rK 1 false (c::cs)=some (True,c):=by simp [rK,cS]
@[go_sem] theorem Gm (a sz:Nat) (l:List AV) (idx off:Nat):oG a true (.live sz l) idx off=some (idx<l.length∧a≤((l.getD idx .any).cells.drop off).length,.agg (((l.getD idx .any).cells.drop off).take a)):=by simp [oG,cS]
@[go_sem] theorem Gn (sz:Nat) (l:List AV) (idx off:Nat):oG 1 false (.live sz l) idx off=some (idx<l.length∧0<((l.getD idx .any).cells.drop off).length,((l.getD idx .any).cells.drop off).headD .any):=by
 simp only [oG,cS,Bool.false_eq_true,if_false,false_or]
 congr 2
 simp only [eq_iff_iff]
 omega
def Hd (x:Option TI) (id:Nat) (v:AV):Option (Prop×AV×BS):=x.bind fun ti=>if v.shaped ti.size then some (True,.ptr id 0 0,.live ti.size [v]) else none
@[go_sem] theorem FL (a b:Nat) (kd:TK) (z:List AV) (id:Nat) (v:AV):Hd (some ⟨a,b,kd,z⟩) id v=if v.shaped a then some (True,.ptr id 0 0,.live a [v]) else none:=rfl
def yx (x:Option TI) (id:Nat):Option (Prop×AV×BS):=x.map fun ti=>(True,.ptr id 0 0,.live ti.size [ti.zval])
@[go_sem] theorem De (a b:Nat) (kd:TK) (z:List AV) (id:Nat):yx (some ⟨a,b,kd,z⟩) id=some (True,.ptr id 0 0,.live a [cS kd.agg z]):=rfl
def DY (P:Program) (x:Option TI) (id len:Nat) (idxs:List Nat) (vs:List AV):Option (Prop×AV×BS):=match j_ P x with
 | some te=>if idxs=List.range len∧(vs.all fun v=>v.shaped te.size)=true∧len*te.size≤16777216 then some (True,.own te.size id 0 len,.live te.size vs) else none
 | none=>none
def He (x:Option TI) (id len:Nat) (idxs:List Nat) (vs:List AV):Option (Prop×AV×BS):=match x with
 | some te=>if idxs=List.range len∧(vs.all fun v=>v.shaped te.size)=true∧len*te.size≤16777216 then some (True,.own te.size id 0 len,.live te.size vs) else none
 | none=>none
@[go_sem] theorem FN (P:Program) (a b:Nat) (e:TypeId) (z:List AV) (id len:Nat) (idxs:List Nat) (vs:List AV):DY P (some ⟨a,b,.slice e,z⟩) id len idxs vs=He (ai P e) id len idxs vs:=rfl
@[go_sem] theorem FM (a b:Nat) (kd:TK) (z:List AV) (id len:Nat) (idxs:List Nat) (vs:List AV):He (some ⟨a,b,kd,z⟩) id len idxs vs=if idxs=List.range len∧(vs.all fun v=>v.shaped a)=true∧len*a≤16777216 then some (True,.own a id 0 len,.live a vs) else none:=rfl
def La (P:Program) (x:Option TI) (id:Nat) (l c:AV):Option (Prop×AV×BS):=match x,l,c with
 | some ti,.int _ n,.int _ m=>match ti.kind with
  | .slice e=>match ai P e with
   | some te=>some (0≤n∧n≤m∧(te.bytes:Int)*m≤281474976710656∧m≤9223372036854775807,.own te.size id 0 n.toNat,.live te.size (List.replicate n.toNat te.zval))
   | none=>none
  | _=>none
 | _,_,_=>none
def K_ (x:Option TI) (id:Nat) (n m:Int):Option (Prop×AV×BS):=match x with
 | some te=>some (0≤n∧n≤m∧(te.bytes:Int)*m≤281474976710656∧m≤9223372036854775807,.own te.size id 0 n.toNat,.live te.size (List.replicate n.toNat te.zval))
 | none=>none
@[go_sem] theorem Ij (P:Program) (a b:Nat) (e:TypeId) (z:List AV) (id:Nat) (k k':IntKind) (n m:Int):La P (some ⟨a,b,.slice e,z⟩) id (.int k n) (.int k' m)=K_ (ai P e) id n m:=by
 simp only [La,K_]
@[go_sem] theorem Ii (a b:Nat) (kd:TK) (z:List AV) (id:Nat) (n m:Int):K_ (some ⟨a,b,kd,z⟩) id n m=some (0≤n∧n≤m∧(b:Int)*m≤281474976710656∧m≤9223372036854775807,.own a id 0 n.toNat,.live a (List.replicate n.toNat (cS kd.agg z))):=rfl
def BA (x:AV) (args:List AV):Option (FuncId×List AV):=match x with
 | .fn (.func g) fs cap=>some (g,fs++args++cap)
 | _=>none
def Fv (x:AV):Option Nat:=match x with
 | .yld id=>some id
 | _=>none
@[go_sem] theorem I0 (id:Nat):Fv (.yld id)=some id:=rfl
@[go_sem] theorem Hf (id:Nat) (args:List AV):BA (.yld id) args=none:=rfl
@[go_sem] theorem Jc (g:FuncId) (fs cap args:List AV):BA (.fn (.func g) fs cap) args=some (g,fs++args++cap):=rfl
section
variable {P:Program} {zm:Bool} {ne:Nat} {Q:AEx→St→Prop} {k:List Itm} {t:Nat→AV} {f:Nat→BS} {n:Nat}
def B4 (P:Program) (zm:Bool) (ne:Nat) (Q:AEx→St→Prop) (ti:Option TI) (b:BS) (i idx off:Nat) (v:AV) (d:Option Tmp) (k:List Itm) (t:Nat→AV) (f:Nat→BS) (n:Nat):Prop :=
 match ti,b with
 | some ti,.live sz l=>v.shaped ti.size=true∧idx<l.length∧off+ti.size≤(l.getD idx .any).cells.length∧0<ti.size∧go P zm ne Q k (ay t d .any) (ap f i (.live sz (l.set idx ((l.getD idx .any).lay off v.cells)))) n
 | _,_=>False
@[go_sem] theorem Gb {a b:Nat} {kd:TK} {z:List AV} {sz:Nat} {l:List AV} {i idx off:Nat} {v:AV} {d:Option Tmp} :
 B4 P zm ne Q (some ⟨a,b,kd,z⟩) (.live sz l) i idx off v d k t f n=(v.shaped a=true∧idx<l.length∧off+a≤(l.getD idx .any).cells.length∧0<a∧go P zm ne Q k (ay t d .any) (ap f i (.live sz (l.set idx ((l.getD idx .any).lay off v.cells)))) n):=rfl
def Em (P:Program) (zm:Bool) (ne:Nat) (Q:AEx→St→Prop) (ti:Option TI) (x v:AV) (d:Option Tmp) (k:List Itm) (t:Nat→AV) (f:Nat→BS) (n:Nat):Prop :=
 match x with
 | .ptr i idx off=>B4 P zm ne Q ti (f i) i idx off v d k t f n
 | _=>False
@[go_sem] theorem HL {ti:Option TI} {i idx off:Nat} {v:AV} {d:Option Tmp}:Em P zm ne Q ti (.ptr i idx off) v d k t f n=B4 P zm ne Q ti (f i) i idx off v d k t f n:=rfl
def BQ (P : Program) (zm : Bool) (ne : Nat) (Q : AEx → St → Prop) (id : Nat) (te : Option TI) (x y : AV) (d : Option Tmp) (k : List Itm) (t : Nat → AV) (f : Nat → BS) (n : Nat) : Prop :=
  match te, x, b9 f y with
  | some te, .own sz i off len, some new => match f i with
    | .live _ l => (te.size = sz ∧ (sD y = sz ∨ new = []) ∧ 0 < sz ∧ 0 < te.bytes) ∧ c8 f y ∧ off + len ≤ l.length ∧ ((len + new.length : Nat) : Int) * te.bytes ≤ 70368744177664 ∧
        go P zm ne Q k (ay t d (.own sz id 0 (len + new.length))) (ap (ap f i .dead) id (.live sz ((l.drop off).take len ++ new))) n
    | _ => False
  | some te, .sl sz tight l, some new =>
    tight = true ∧ ((te.size = sz ∨ l = []) ∧ (sD y = te.size ∨ new = []) ∧ 0 < te.size ∧ 0 < te.bytes ∧ (l = [] ∨ new ≠ [])) ∧ c8 f y ∧ ((l.length + new.length : Nat) : Int) * te.bytes ≤ 70368744177664 ∧
        go P zm ne Q k (ay t d (.own te.size id 0 (l.length + new.length))) (ap f id (.live te.size (l ++ new))) n
  | _, _, _ => False
def uY (P : Program) (zm : Bool) (ne : Nat) (Q : AEx → St → Prop) (id i off len sz a b : Nat) (blk : BS) (y : AV) (new : List AV) (d : Option Tmp) (k : List Itm) (t : Nat → AV) (f : Nat → BS) (n : Nat) : Prop :=
  match blk with
  | .live _ l => (a = sz ∧ (sD y = sz ∨ new = []) ∧ 0 < sz ∧ 0 < b) ∧ c8 f y ∧ off + len ≤ l.length ∧ ((len + new.length : Nat) : Int) * b ≤ 70368744177664 ∧
        go P zm ne Q k (ay t d (.own sz id 0 (len + new.length))) (ap (ap f i .dead) id (.live sz ((l.drop off).take len ++ new))) n
  | _ => False
@[go_sem] theorem tE {id i off len sz a b s':Nat} {l:List AV} {y:AV} {new:List AV} {d:Option Tmp}:uY P zm ne Q id i off len sz a b (.live s' l) y new d k t f n=((a=sz∧(sD y=sz∨new=[])∧0<sz∧0<b)∧c8 f y∧off+len≤l.length∧((len+new.length:Nat):Int)*b≤70368744177664 ∧
 go P zm ne Q k (ay t d (.own sz id 0 (len+new.length))) (ap (ap f i .dead) id (.live sz ((l.drop off).take len++new))) n):=rfl
def ox (P : Program) (zm : Bool) (ne : Nat) (Q : AEx → St → Prop) (id : Nat) (te : Option TI) (x y : AV) (src : Option (List AV)) (d : Option Tmp) (k : List Itm) (t : Nat → AV) (f : Nat → BS) (n : Nat) : Prop :=
  match te, x, src with
  | some te, .own sz i off len, some new => uY P zm ne Q id i off len sz te.size te.bytes (f i) y new d k t f n
  | some te, .sl sz tight l, some new =>
    tight = true ∧ ((te.size = sz ∨ l = []) ∧ (sD y = te.size ∨ new = []) ∧ 0 < te.size ∧ 0 < te.bytes ∧ (l = [] ∨ new ≠ [])) ∧ c8 f y ∧ ((l.length + new.length : Nat) : Int) * te.bytes ≤ 70368744177664 ∧
        go P zm ne Q k (ay t d (.own te.size id 0 (l.length + new.length))) (ap f id (.live te.size (l ++ new))) n
  | _, _, _ => False
theorem Eg {id:Nat} {te:Option TI} {x y:AV} {d:Option Tmp}:BQ P zm ne Q id te x y d k t f n=ox P zm ne Q id te x y (b9 f y) d k t f n:=by
 unfold BQ ox
 cases te<;>cases x<;>cases b9 f y<;>simp only [uY]
@[go_sem] theorem wR {id:Nat} {a b:Nat} {kd:TK} {z:List AV} {sz i off len:Nat} {y:AV} {new:List AV} {d:Option Tmp} :
 ox P zm ne Q id (some ⟨a,b,kd,z⟩) (.own sz i off len) y (some new) d k t f n=uY P zm ne Q id i off len sz a b (f i) y new d k t f n:=rfl
@[go_sem] theorem zn {id:Nat} {a b:Nat} {kd:TK} {z:List AV} {sz:Nat} {tg:Bool} {l:List AV} {y:AV} {new:List AV} {d:Option Tmp} :
 ox P zm ne Q id (some ⟨a,b,kd,z⟩) (.sl sz tg l) y (some new) d k t f n=(tg=true∧((a=sz∨l=[])∧(sD y=a∨new=[])∧0<a∧0<b∧(l=[]∨new≠[]))∧c8 f y∧((l.length+new.length:Nat):Int)*b≤70368744177664 ∧
  go P zm ne Q k (ay t d (.own a id 0 (l.length+new.length))) (ap f id (.live a (l++new))) n):=rfl
def to (b:BS) (off len:Nat):Option (List AV):=match b with
 | .live _ l=>some ((l.drop off).take len)
 | _=>none
@[go_sem] theorem F2 (sz:Nat) (tg:Bool) (l:List AV):b9 f (.sl sz tg l)=some l:=rfl
@[go_sem] theorem D8 (sz id off len:Nat):b9 f (.own sz id off len)=to (f id) off len:=rfl
@[go_sem] theorem Di (sz off len:Nat) (l:List AV):to (.live sz l) off len=some ((l.drop off).take len):=rfl
def y_ (b:BS) (off len:Nat):Prop:=match b with
 | .live _ l=>off+len≤l.length
 | _=>False
@[go_sem] theorem Ht (sz:Nat) (tg:Bool) (l:List AV):c8 f (.sl sz tg l)=True:=rfl
@[go_sem] theorem F5 (sz id off len:Nat):c8 f (.own sz id off len)=y_ (f id) off len:=rfl
@[go_sem] theorem Ec (sz off len:Nat) (l:List AV):y_ (.live sz l) off len=(off+len≤l.length):=rfl
@[go_sem] theorem F1 (P:Program) (f:Nat→BS) (a b:Nat) (e:TypeId) (z:List AV) (a' b':Nat) (z':List AV) (sz id off len:Nat):iS P f (some ⟨a,b,.slice e,z⟩) (some ⟨a',b',.string,z'⟩) (.own sz id off len)=qH (q8 (ai P e)) (to (f id) off len) (sz=1∧y_ (f id) off len):=rfl
@[go_sem] theorem Lo (sz:Nat) (tg:Bool) (l:List AV):sD (.sl sz tg l)=sz:=rfl
@[go_sem] theorem Ke (sz id off len:Nat):sD (.own sz id off len)=sz:=rfl
variable {yl q:Bool} {O:Array Oper} {n0 i:Nat} {r:List Oper} {d:Option Tmp} {ty:TypeId} {pos:String} {after:Array Edge}
@[go_sem] theorem JB {x:Operand}:go P zm ne Q (.ops yl q O n0 i (⟨d,.move x,ty,pos,after,none⟩::r)::k) t f n=go P zm ne Q (.ops yl q O n0 (i+1) r::k) (ay t d (aS t x)) f n:=by rw [fu rfl]; simp only [gG,jA]
@[go_sem] theorem Gd {x:Operand}:go P zm ne Q (.ops yl q O n0 i (⟨d,.assign x,ty,pos,after,none⟩::r)::k) t f n=go P zm ne Q (.ops yl q O n0 (i+1) r::k) (ay t d (aS t x)) f n:=by rw [fu rfl]; simp only [gG,jA]
@[go_sem] theorem JE {a b c:Operand}:go P zm ne Q (.ops yl q O n0 i (⟨d,.pick c a b,ty,pos,after,none⟩::r)::k) t f n=kz P zm ne Q (AD (aS t c) (aS t a) (aS t b)) d (.ops yl q O n0 (i+1) r::k) t f n:=by rw [fu rfl]; rfl
@[go_sem] theorem JF {op:UnOp} {ty':TypeId} {x:Operand}:go P zm ne Q (.ops yl q O n0 i (⟨d,.unOp op ty' x,ty,pos,after,none⟩::r)::k) t f n=kz P zm ne Q (C6 op (aS t x)) d (.ops yl q O n0 (i+1) r::k) t f n:=by rw [fu rfl]; rfl
@[go_sem] theorem Es {op:BinOp} {ty' ty2:TypeId} {x:Operand} {y:Tmp}:go P zm ne Q (.ops yl q O n0 i (⟨d,.binOp op ty' x (.tmp y) ty2,ty,pos,after,none⟩::r)::k) t f n=kz P zm ne Q (pq P op ty' (aS t x) (aS t (.tmp y))) d (.ops yl q O n0 (i+1) r::k) t f n:=by rw [fu rfl]; rfl
@[go_sem] theorem Ep {op:BinOp} {ty' ty2:TypeId} {x:Operand} {kk:IntKind} {y:Int}:go P zm ne Q (.ops yl q O n0 i (⟨d,.binOp op ty' x (.const (.int kk y)) ty2,ty,pos,after,none⟩::r)::k) t f n=kz P zm ne Q (pq P op ty' (aS t x) (aS t (.const (.int kk y)))) d (.ops yl q O n0 (i+1) r::k) t f n:=by rw [fu rfl]; rfl
@[go_sem] theorem Eo {op:BinOp} {ty' ty2:TypeId} {x:Operand} {y:Bool}:go P zm ne Q (.ops yl q O n0 i (⟨d,.binOp op ty' x (.const (.bool y)) ty2,ty,pos,after,none⟩::r)::k) t f n=kz P zm ne Q (pq P op ty' (aS t x) (aS t (.const (.bool y)))) d (.ops yl q O n0 (i+1) r::k) t f n:=by rw [fu rfl]; rfl
@[go_sem] theorem Er {op:BinOp} {ty' ty2:TypeId} {x:Operand} {y:ByteArray}:go P zm ne Q (.ops yl q O n0 i (⟨d,.binOp op ty' x (.const (.string y)) ty2,ty,pos,after,none⟩::r)::k) t f n=kz P zm ne Q (pq P op ty' (aS t x) (aS t (.const (.string y)))) d (.ops yl q O n0 (i+1) r::k) t f n:=by rw [fu rfl]; rfl
def EN (op:BinOp) (x:Option TI) (v:AV) (K:AV→Prop):Prop:=match ur x,lenOf v with
 | true,some len=>tT op len K
 | _,_=>False
@[go_sem] theorem JS (op:BinOp) (a b:Nat) (e:TypeId) (z:List AV) (sz:Nat) (tg:Bool) (l:List AV) (K:AV→Prop):EN op (some ⟨a,b,.slice e,z⟩) (.sl sz tg l) K=tT op l.length K:=rfl
@[go_sem] theorem Io (op:BinOp) (a b:Nat) (e:TypeId) (z:List AV) (sz id off len:Nat) (K:AV→Prop):EN op (some ⟨a,b,.slice e,z⟩) (.own sz id off len) K=tT op len K:=rfl
@[go_sem] theorem Ik (len:Nat) (K:AV→Prop):tT .eql len K=((len=0→K (.bool true))∧K (.bool false)):=rfl
@[go_sem] theorem Il (len:Nat) (K:AV→Prop):tT .neq len K=((len=0→K (.bool false))∧K (.bool true)):=rfl
@[go_sem] theorem JD {op:BinOp} {ty' ty2:TypeId} {x:Operand}:go P zm ne Q (.ops yl false O n0 i (⟨d,.binOp op ty' x (.const (.slice none 0 0)) ty2,ty,pos,after,none⟩::r)::k) t f n =
 EN op (ai P ty') (aS t x) (fun v=>go P zm ne Q (.ops yl false O n0 (i+1) r::k) (ay t d v) f n):=by
 rw [Dn rfl]; simp only [Fu,or_false]; rfl
@[go_sem] theorem Eu {a b:TypeId} {x:Operand}:go P zm ne Q (.ops yl q O n0 i (⟨d,.convert a b x,ty,pos,after,none⟩::r)::k) t f n=kz P zm ne Q (iS P (fz (dR yl q O n0 i) f) (ai P a) (ai P b) (aS t x)) d (.ops yl q O n0 (i+1) r::k) t f n:=by rw [Ez rfl]; rfl
@[go_sem] theorem Dl {fn:Fn} {a b:Array Operand}:go P zm ne Q (.ops yl q O n0 i (⟨d,.makeFunc fn a b,ty,pos,after,none⟩::r)::k) t f n=go P zm ne Q (.ops yl q O n0 (i+1) r::k) (ay t d (.fn fn (a.toList.map (aS t)) (b.toList.map (aS t)))) f n:=by rw [fu rfl]; simp only [gG,jA]
@[go_sem] theorem B8 {s:TypeId} {x:Operand} {j:Nat}:go P zm ne Q (.ops yl q O n0 i (⟨d,.fieldAddr s x j,ty,pos,after,none⟩::r)::k) t f n=kz P zm ne Q (kb P (gU (ai P s) j) (aS t x)) d (.ops yl q O n0 (i+1) r::k) t f n:=by
 rw [fu rfl]; simp only [gG,kb,gU]
 cases ai P s with
 | none=>rfl
 | some ti=>obtain ⟨a,b,kd,z⟩:=ti; cases kd<;>rfl
@[go_sem] theorem HP {s:TypeId} {x:Operand} {j:Nat}:go P zm ne Q (.ops yl q O n0 i (⟨d,.field s x j,ty,pos,after,none⟩::r)::k) t f n=kz P zm ne Q (pJ P (gU (ai P s) j) (aS t x)) d (.ops yl q O n0 (i+1) r::k) t f n:=by
 rw [fu rfl]; simp only [gG,pJ,gU]
 cases ai P s with
 | none=>rfl
 | some ti=>obtain ⟨a,b,kd,z⟩:=ti; cases kd<;>rfl
@[go_sem] theorem B_ {s:TypeId} {x j:Operand}:go P zm ne Q (.ops yl q O n0 i (⟨d,.indexAddr s x j,ty,pos,after,none⟩::r)::k) t f n=kz P zm ne Q (pW P (ai P s) (aS t x) (aS t j)) d (.ops yl q O n0 (i+1) r::k) t f n:=by rw [fu rfl]; rfl
@[go_sem] theorem HS {s:TypeId} {x j:Operand}:go P zm ne Q (.ops yl q O n0 i (⟨d,.index s x j,ty,pos,after,none⟩::r)::k) t f n=kz P zm ne Q (pY P (ai P s) (aS t x) (aS t j)) d (.ops yl q O n0 (i+1) r::k) t f n:=by rw [fu rfl]; rfl
@[go_sem] theorem Ev {x:Operand} {j:Nat}:go P zm ne Q (.ops yl q O n0 i (⟨d,.extract x j,ty,pos,after,none⟩::r)::k) t f n=kz P zm ne Q (Dk (aS t x) j) d (.ops yl q O n0 (i+1) r::k) t f n:=by rw [fu rfl]; rfl
@[go_sem] theorem HN {s:TypeId} {ps:Array (Nat×Operand)}:go P zm ne Q (.ops yl q O n0 i (⟨d,.build s ps,ty,pos,after,none⟩::r)::k) t f n=kz P zm ne Q (fR P (ai P s) (ps.toList.map fun p=>(p.1,aS t p.2))) d (.ops yl q O n0 (i+1) r::k) t f n:=by
 rw [fu rfl]; simp only [gG,fR]
 cases ai P s with
 | none=>rfl
 | some ti=>obtain ⟨a,b,kd,z⟩:=ti; cases kd<;>simp only [uP,oE]<;>rfl
@[go_sem] theorem Dm {x:Operand}:go P zm ne Q (.ops yl q O n0 i (⟨d,.nilCheck x,ty,pos,after,none⟩::r)::k) t f n=kz P zm ne Q (tU (aS t x)) d (.ops yl q O n0 (i+1) r::k) t f n:=by rw [fu rfl]; rfl
@[go_sem] theorem HV {s:TypeId} {x:Operand} {lo hi mx:Option Operand}:go P zm ne Q (.ops yl q O n0 i (⟨d,.slice s x lo hi mx,ty,pos,after,none⟩::r)::k) t f n=kz P zm ne Q (Ff P (ai P s) (aS t x) (wA (lo.map (aS t))) (wA (hi.map (aS t))) (wA (mx.map (aS t)))) d (.ops yl q O n0 (i+1) r::k) t f n:=by
 rw [fu rfl]
 have h:∀o:Option Operand,eK (aS t) o=wA (o.map (aS t)):=by
  intro o
  cases o with
  | none=>rfl
  | some x=>simp only [eK,Option.map_some]; cases aS t x<;>rfl
 simp only [gG,Ff,h]
 rfl
@[go_sem] theorem KZ {s:TypeId} {x:Operand}:go P zm ne Q (.ops yl q O n0 i (⟨d,.call ⟨.builtin .len,#[x],#[s]⟩,ty,pos,after,none⟩::r)::k) t f n=kz P zm ne Q (Ac (ai P s) (aS t x)) d (.ops yl q O n0 (i+1) r::k) t f n:=by rw [fu rfl]; rfl
@[go_sem] theorem K0 {x y:Operand} {ts:Array TypeId}:go P zm ne Q (.ops yl q O n0 i (⟨d,.call ⟨.builtin .max,#[x,y],ts⟩,ty,pos,after,none⟩::r)::k) t f n=kz P zm ne Q (Id (aS t x) (aS t y)) d (.ops yl q O n0 (i+1) r::k) t f n:=by rw [fu rfl]; rfl
@[go_sem] theorem K1 {x y:Operand} {ts:Array TypeId}:go P zm ne Q (.ops yl q O n0 i (⟨d,.call ⟨.builtin .min,#[x,y],ts⟩,ty,pos,after,none⟩::r)::k) t f n=kz P zm ne Q (Ig (aS t x) (aS t y)) d (.ops yl q O n0 (i+1) r::k) t f n:=by rw [fu rfl]; rfl
attribute [go_sem] HD HE HF DR
@[go_sem] theorem JA {s:TypeId} {x:Operand}:go P zm ne Q (.ops yl q O n0 i (⟨d,.load s x,ty,pos,after,none⟩::r)::k) t f n=kz P zm ne Q (vq (ai P s) (fz (dR yl q O n0 i) f) (aS t x)) d (.ops yl q O n0 (i+1) r::k) t f n:=by rw [Ez rfl]; rfl
@[go_sem] theorem HM {s:TypeId}:go P zm ne Q (.ops yl q O n0 i (⟨d,.alloc s,ty,pos,after,none⟩::r)::k) t f n=B0 P zm ne Q (nK q n0 i n) (yx (ai P s) (nK q n0 i n)) d (.ops yl q O n0 (i+1) r::k) t f (jG q n):=by rw [B9 rfl]; rfl
@[go_sem] theorem KY {s:TypeId} {x:Operand}:go P zm ne Q (.ops yl q O n0 i (⟨d,.box s x,ty,pos,after,none⟩::r)::k) t f n=B0 P zm ne Q (nK q n0 i n) (Hd (ai P s) (nK q n0 i n) (aS t x)) d (.ops yl q O n0 (i+1) r::k) t f (jG q n):=by rw [B9 rfl]; rfl
@[go_sem] theorem Br {s:TypeId} {len:Nat} {ps:Array (Nat×Operand)}:go P zm ne Q (.ops yl q O n0 i (⟨d,.buildSlice s len ps,ty,pos,after,none⟩::r)::k) t f n=B0 P zm ne Q (nK q n0 i n) (DY P (ai P s) (nK q n0 i n) len (ps.toList.map (·.1)) (ps.toList.map fun p=>aS t p.2)) d (.ops yl q O n0 (i+1) r::k) t f (jG q n):=by
 rw [B9 rfl]; simp only [nO,DY,j_,List.all_map]
 cases ai P s with
 | none=>rfl
 | some ti=>obtain ⟨a,b,kd,z⟩:=ti; cases kd<;>rfl
@[go_sem] theorem Ca {s:TypeId} {l c:Operand}:go P zm ne Q (.ops yl q O n0 i (⟨d,.makeSlice s l c,ty,pos,after,none⟩::r)::k) t f n=B0 P zm ne Q (nK q n0 i n) (La P (ai P s) (nK q n0 i n) (aS t l) (aS t c)) d (.ops yl q O n0 (i+1) r::k) t f (jG q n):=by rw [B9 rfl]; rfl
theorem wY {op:Op} (h:aE op = .l):go P zm ne Q (.ops false q O n0 i (⟨d,op,ty,pos,after,none⟩::r)::k) t f n=iO P (nK q n0 i n) f (aS t) (fun v f'=>go P zm ne Q (.ops false q O n0 (i+1) r::k) (ay t d v) f' (bif fG op then jG q n else n)) op:=by
 simp only [go,ly,cJ,fo,h,Bool.false_and,Bool.false_eq_true,false_implies,true_and]
@[go_sem] theorem HW {s:TypeId} {x y:Operand}:go P zm ne Q (.ops false q O n0 i (⟨d,.store s x y,ty,pos,after,none⟩::r)::k) t f n=Em P zm ne Q (ai P s) (aS t x) (aS t y) d (.ops false q O n0 (i+1) r::k) t f n:=by
 rw [wY rfl]; simp only [iO,Em,B4]
 cases ai P s<;>cases aS t x<;>first|rfl|(simp only; cases f _<;>rfl)
def vc (P:Program) (zm:Bool) (ne:Nat) (Q:AEx→St→Prop) (O:Array Oper) (n0 j:Nat) (ti:Option TI) (b:BS) (i idx off:Nat) (v:AV) (d:Option Tmp) (k:List Itm) (t:Nat→AV) (f:Nat→BS) (n:Nat):Prop :=
 match ti,b with
 | some ti,.live sz l=>v.shaped ti.size=true∧idx<l.length∧off+ti.size≤(l.getD idx .any).cells.length∧0<ti.size∧LK O n0 j f (ap f i (.live sz (l.set idx ((l.getD idx .any).lay off v.cells))))∧go P zm ne Q k (ay t d .any) (ap f i (.live sz (l.set idx ((l.getD idx .any).lay off v.cells)))) n
 | _,_=>False
@[go_sem] theorem En {a b j:Nat} {kd:TK} {z:List AV} {sz:Nat} {l:List AV} {i idx off:Nat} {v:AV} {d:Option Tmp} :
 vc P zm ne Q O n0 j (some ⟨a,b,kd,z⟩) (.live sz l) i idx off v d k t f n=(v.shaped a=true∧idx<l.length∧off+a≤(l.getD idx .any).cells.length∧0<a∧LK O n0 j f (ap f i (.live sz (l.set idx ((l.getD idx .any).lay off v.cells))))∧go P zm ne Q k (ay t d .any) (ap f i (.live sz (l.set idx ((l.getD idx .any).lay off v.cells)))) n):=rfl
def zJ (P:Program) (zm:Bool) (ne:Nat) (Q:AEx→St→Prop) (O:Array Oper) (n0 j:Nat) (ti:Option TI) (x v:AV) (d:Option Tmp) (k:List Itm) (t:Nat→AV) (f:Nat→BS) (n:Nat):Prop :=
 match x with
 | .ptr i idx off=>vc P zm ne Q O n0 j ti (f i) i idx off v d k t f n
 | _=>False
@[go_sem] theorem Ga {j:Nat} {ti:Option TI} {i idx off:Nat} {v:AV} {d:Option Tmp}:zJ P zm ne Q O n0 j ti (.ptr i idx off) v d k t f n=vc P zm ne Q O n0 j ti (f i) i idx off v d k t f n:=rfl
@[go_sem] theorem Gg {s:TypeId} {x y:Operand}:go P zm ne Q (.ops true true O n0 i (⟨d,.store s x y,ty,pos,after,none⟩::r)::k) t f n=zJ P zm ne Q O n0 i (ai P s) (aS t x) (aS t y) d (.ops true true O n0 (i+1) r::k) t f n:=by
 simp only [go,ly,cJ,fo,aE,iO,zJ,vc,LK,fG,cond_false,Bool.and_self,true_implies]
 cases ai P s<;>cases aS t x<;>first|rfl|(simp only; cases f _<;>first|rfl|(simp only [and_assoc]))
attribute [go_sem] fD
def HZ (kd:IntKind) (i:Nat) (kd':IntKind) (m:Int) (b:BS) (f:Nat→BS) (v:AV) (K:AV→(Nat→BS)→Prop):Prop:=match b with
 | .obj (.map es cl) tt=>(kd'=kd∧fD kd m (es.toList.map fun e=>e.key) 0=some none∧clo i v)∧K .any (ap f i (.obj (.map (es.push ⟨.int kd m,undef,cl⟩) (cl+1)) (ap tt es.size v)))
 | _=>False
@[go_sem] theorem JI {kd kd':IntKind} {f:Nat→BS} {i:Nat} {m:Int} {v:AV} {K:AV→(Nat→BS)→Prop}:xm (some kd) f (.mp i) (.int kd' m) v K=HZ kd i kd' m (f i) f v K:=rfl
@[go_sem] theorem H0 {kd kd':IntKind} {f:Nat→BS} {i:Nat} {m:Int} {v:AV} {K:AV→(Nat→BS)→Prop} {es:Array MapEntry} {cl:Nat} {tt:Nat→AV}:HZ kd i kd' m (.obj (.map es cl) tt) f v K =
 ((kd'=kd∧fD kd m (es.toList.map fun e=>e.key) 0=some none∧clo i v)∧K .any (ap f i (.obj (.map (es.push ⟨.int kd m,undef,cl⟩) (cl+1)) (ap tt es.size v)))):=rfl
def Af (kd' kd:IntKind) (tt:Nat→AV) (x:Option (Option Nat)):er:=match x with
 | some (some j)=>some (kd'=kd,tt j)
 | _=>none
@[go_sem] theorem EJ {kd' kd:IntKind} {tt:Nat→AV} {j:Nat}:Af kd' kd tt (some (some j))=some (kd'=kd,tt j):=rfl
def Dt (kd kd':IntKind) (m:Int) (b:BS):er:=match b with
 | .obj (.map es _) tt=>Af kd' kd tt (fD kd m (es.toList.map fun e=>e.key) 0)
 | _=>none
@[go_sem] theorem Ic {kd kd':IntKind} {f:Nat→BS} {i:Nat} {m:Int}:oH (some kd) f (.mp i) (.int kd' m)=Dt kd kd' m (f i):=rfl
@[go_sem] theorem Gq {kd kd':IntKind} {m:Int} {es:Array MapEntry} {cl:Nat} {tt:Nat→AV}:Dt kd kd' m (.obj (.map es cl) tt)=Af kd' kd tt (fD kd m (es.toList.map fun e=>e.key) 0):=rfl
@[go_sem] theorem Ex {s:TypeId}:go P zm ne Q (.ops false q O n0 i (⟨d,.makeMap s none,ty,pos,after,none⟩::r)::k) t f n=go P zm ne Q (.ops false q O n0 (i+1) r::k) (ay t d (.mp (nK q n0 i n))) (ap f (nK q n0 i n) (.obj (.map #[] 0) (fun _ => .any))) (jG q n):=by
 rw [wY rfl]; rfl
@[go_sem] theorem Ge {s:TypeId} {a b c:Operand}:go P zm ne Q (.ops false q O n0 i (⟨d,.insert s a b c,ty,pos,after,none⟩::r)::k) t f n=xm (ic P s) f (aS t a) (aS t b) (aS t c) (fun v f'=>go P zm ne Q (.ops false q O n0 (i+1) r::k) (ay t d v) f' n):=by
 rw [wY rfl]; rfl
@[go_sem] theorem Gf {s:TypeId} {a b:Operand}:go P zm ne Q (.ops yl q O n0 i (⟨d,.lookup s a b false,ty,pos,after,none⟩::r)::k) t f n=kz P zm ne Q (oH (ic P s) (fz (dR yl q O n0 i) f) (aS t a) (aS t b)) d (.ops yl q O n0 (i+1) r::k) t f n:=by rw [Ez rfl]; rfl
def HJ (P:Program) (zm:Bool) (ne:Nat) (Q:AEx→St→Prop) (id:Nat) (x:Option TI) (v:AV) (d:Option Tmp) (k:List Itm) (t:Nat→AV) (f:Nat→BS) (n:Nat):Prop :=
 match x,v with
 | some ti,.str s=>match ti.kind with
  | .string=>go P zm ne Q k (ay t d (.ptr id 0 0)) (ap f id (.iter s 0)) n
  | _=>False
 | _,_=>False
@[go_sem] theorem HK {id a b:Nat} {z:List AV} {s:ByteArray}:HJ P zm ne Q id (some ⟨a,b,.string,z⟩) (.str s) d k t f n=go P zm ne Q k (ay t d (.ptr id 0 0)) (ap f id (.iter s 0)) n:=rfl
@[go_sem] theorem HU {s:TypeId} {x:Operand}:go P zm ne Q (.ops false q O n0 i (⟨d,.range s x,ty,pos,after,none⟩::r)::k) t f n=HJ P zm ne Q (nK q n0 i n) (ai P s) (aS t x) d (.ops false q O n0 (i+1) r::k) t f (jG q n):=by
 rw [wY rfl]; rfl
def B2 (P:Program) (zm:Bool) (ne:Nat) (Q:AEx→St→Prop) (i:Nat) (b:BS) (d:Option Tmp) (k:List Itm) (t:Nat→AV) (f:Nat→BS) (n:Nat):Prop :=
 match b with
 | .obj (.stringIter s p) _=>(p<s.size→go P zm ne Q k (ay t d (.tup [.bool true,.int .i64 p,.int .i32 (Utf8.decode s p).1])) (ap f i (.iter s (p+(Utf8.decode s p).2))) n)∧(¬p<s.size→go P zm ne Q k (ay t d (.tup [.bool false])) f n)
 | _=>False
@[go_sem] theorem F_ {j:Nat} {s:ByteArray} {p:Nat}:B2 P zm ne Q j (.iter s p) d k t f n=((p<s.size→go P zm ne Q k (ay t d (.tup [.bool true,.int .i64 p,.int .i32 (Utf8.decode s p).1])) (ap f j (.iter s (p+(Utf8.decode s p).2))) n)∧(¬p<s.size→go P zm ne Q k (ay t d (.tup [.bool false])) f n)):=rfl
def Ek (P:Program) (zm:Bool) (ne:Nat) (Q:AEx→St→Prop) (v:AV) (d:Option Tmp) (k:List Itm) (t:Nat→AV) (f:Nat→BS) (n:Nat):Prop :=
 match v with
 | .ptr i 0 0=>B2 P zm ne Q i (f i) d k t f n
 | _=>False
@[go_sem] theorem HI {j:Nat}:Ek P zm ne Q (.ptr j 0 0) d k t f n=B2 P zm ne Q j (f j) d k t f n:=rfl
@[go_sem] theorem JC {x:Operand}:go P zm ne Q (.ops false q O n0 i (⟨d,.next x true,ty,pos,after,none⟩::r)::k) t f n=Ek P zm ne Q (aS t x) d (.ops false q O n0 (i+1) r::k) t f n:=by
 rw [wY rfl]
 simp only [iO]
 generalize aS t x=v
 cases v<;>try rfl
 rename_i j a b
 rcases a with _|a<;>rcases b with _|b<;>try rfl
 simp only [Ek,B2]
 cases f j with
 | obj o tt =>
  cases o<;>try rfl
  rename_i s p
  simp only [fG,cond_false,true_and]
  by_cases h:p<s.size<;>simp [h]
 | _=>rfl
def Kb (x:Option TI) (p:Prop):Prop:=match x with
 | some ti=>match ti.kind with
  | .slice _=>p
  | _=>False
 | none=>False
@[go_sem] theorem IH {a b:Nat} {e:TypeId} {z:List AV} {p:Prop}:Kb (some ⟨a,b,.slice e,z⟩) p=p:=rfl
@[go_sem] theorem Gc {s s':TypeId} {x y:Operand}:go P zm ne Q (.ops false q O n0 i (⟨d,.call ⟨.builtin .append,#[x,y],#[s,s']⟩,ty,pos,after,none⟩::r)::k) t f n =
 Kb (ai P s') (ox P zm ne Q (nK q n0 i n) (j_ P (ai P s)) (aS t x) (aS t y) (b9 f (aS t y)) d (.ops false q O n0 (i+1) r::k) t f (jG q n)):=by
 rw [wY rfl,←Eg]
 simp only [iO]
 cases ai P s with
 | none=>cases ai P s' with
  | none=>rfl
  | some ti'=>obtain ⟨a',b',kd',z'⟩:=ti'; cases kd'<;>simp [Kb,BQ,j_]
 | some ti =>
  obtain ⟨a,b,kd,z⟩:=ti
  cases ai P s' with
  | none=>cases kd<;>rfl
  | some ti' =>
   obtain ⟨a',b',kd',z'⟩:=ti'
   cases kd'<;>cases kd<;>simp only [Kb,BQ,j_]<;>first|rfl|(rename_i e' e; cases ai P e<;>cases aS t x<;>cases b9 f (aS t y)<;>rfl)
def HH (P:Program) (zm:Bool) (ne:Nat) (Q:AEx→St→Prop) (x:Option Tmp) (want:Bool) (d:Option Tmp) (k1 k2:List Itm) (t:Nat→AV) (f:Nat→BS) (n:Nat):Prop:=match x with
 | some e=>nN P zm ne Q (t e) e want d k1 k2 t f n
 | none=>False
@[go_sem] theorem F9 {e:Tmp} {want:Bool} {k1 k2:List Itm}:HH P zm ne Q (some e) want d k1 k2 t f n=nN P zm ne Q (t e) e want d k1 k2 t f n:=rfl
@[go_sem] theorem Ew {op:Op} {j:Nat} {want:Bool}:go P zm ne Q (.ops yl q O n0 i (⟨d,op,ty,pos,after,some (j,want)⟩::r)::k) t f n =
 HH P zm ne Q ((O[j]?).bind (·.dst)) want d (.ops yl q O n0 i (⟨d,op,ty,pos,after,none⟩::r)::k) (.ops yl q O n0 (i+1) r::k) t f n:=by
 cases h:dm O j with
 | none =>
  simp only [go,ly,cJ,h]
  unfold dm at h
  rw [h]; rfl
 | some e =>
  rw [zN h]
  unfold dm at h
  rw [h]; rfl
@[go_sem] theorem HO {x:Operand} {args:Array Operand} {ts:Array TypeId}:go P zm ne Q (.ops yl q O n0 i (⟨d,.call ⟨.value x,args,ts⟩,ty,pos,after,none⟩::r)::k) t f n=kv P zm ne Q q (cK O i) (BA (aS t x) (args.toList.map (aS t))) (Fv (aS t x)) (args.toList.map (aS t)) d (.ops yl q O n0 (i+1) r::k) t f n:=by
 rw [B5 rfl]; simp only [cY,BA,yi,Fv]
 rfl
end
theorem yJ {n:Nat} {l:List AV}:cloL n l↔∀a∈l,clo n a:=by
 induction l with
 | nil=>simp [cloL]
 | cons a l ih=>simp [cloL,ih]
mutual
theorem px {n:Nat}:∀a:AV,ro a→clo n a
 | .any,_=>by simp only [clo]
 | .bool _,_=>by simp only [clo]
 | .int _ _,_=>by simp only [clo]
 | .str _,_=>by simp only [clo]
 | .agg cs,h=>by simp only [clo]; exact cloL_ro cs (by simpa only [ro] using h)
 | .tup cs,h=>by simp only [clo]; exact cloL_ro cs (by simpa only [ro] using h)
 | .sl _ _ l,h=>by simp only [clo]; exact cloL_ro l (by simpa only [ro] using h)
 | .own _ _ _ _,h=>by simp only [ro] at h
 | .ptr _ _ _,h=>by simp only [ro] at h
 | .rp cs,h=>by simp only [clo]; exact cloL_ro cs (by simpa only [ro] using h)
 | .fn _ fs cap,h=>by
  simp only [ro] at h
  simp only [clo]; exact ⟨cloL_ro fs h.1,cloL_ro cap h.2⟩
 | .yld _,h=>by simp only [ro] at h
 | .mp _,h=>by simp only [ro] at h
 | .nilp,_=>by simp only [clo]
theorem cloL_ro {n:Nat}:∀l:List AV,roL l→cloL n l
 | [],_=>by simp only [cloL]
 | a::l,h=>by
  simp only [roL] at h
  simp only [cloL]; exact ⟨px a h.1,cloL_ro l h.2⟩
end
mutual
def ren (rn:Nat→Nat):AV→AV
 | .own sz id off len => .own sz (rn id) off len
 | .ptr id idx off => .ptr (rn id) idx off
 | .agg cs => .agg (renL rn cs)
 | .tup cs => .tup (renL rn cs)
 | .sl sz tight l => .sl sz tight (renL rn l)
 | .rp cs => .rp (renL rn cs)
 | .fn f fs cap => .fn f (renL rn fs) (renL rn cap)
 | .yld id => .yld (rn id)
 | .mp id => .mp (rn id)
 | a=>a
def renL (rn:Nat→Nat):List AV→List AV
 | []=>[]
 | a::l=>ren rn a::renL rn l
end
theorem r_ (rn:Nat→Nat) (l:List AV):renL rn l=l.map (ren rn):=by
 induction l with
 | nil=>rfl
 | cons a l ih=>simp only [renL,List.map_cons,ih]
theorem cn (rn:Nat→Nat) (l m:List AV):renL rn (l++m)=renL rn l++renL rn m:=by simp only [r_,List.map_append]
theorem bQ (n:Nat) (l m:List AV):cloL n (l++m)=(cloL n l∧cloL n m):=by
 simp only [yJ,List.mem_append,eq_iff_iff]
 exact ⟨fun h=>⟨fun a ha=>h a (.inl ha),fun a ha=>h a (.inr ha)⟩,fun h a ha=>ha.elim (h.1 a) (h.2 a)⟩
theorem eW (rn:Nat→Nat) (l:List AV):(renL rn l).length=l.length:=by rw [r_,List.length_map]
mutual
theorem qt (rn:Nat→Nat):∀a:AV,ro a→ren rn a=a
 | .any,_=>rfl
 | .bool _,_=>rfl
 | .int _ _,_=>rfl
 | .str _,_=>rfl
 | .agg cs,h=>by simp only [ren]; rw [renL_ro rn cs (by simpa only [ro] using h)]
 | .tup cs,h=>by simp only [ren]; rw [renL_ro rn cs (by simpa only [ro] using h)]
 | .sl _ _ l,h=>by simp only [ren]; rw [renL_ro rn l (by simpa only [ro] using h)]
 | .own _ _ _ _,h=>by simp only [ro] at h
 | .ptr _ _ _,h=>by simp only [ro] at h
 | .rp cs,h=>by simp only [ren]; rw [renL_ro rn cs (by simpa only [ro] using h)]
 | .fn _ fs cap,h=>by
  simp only [ro] at h
  simp only [ren]; rw [renL_ro rn fs h.1,renL_ro rn cap h.2]
 | .yld _,h=>by simp only [ro] at h
 | .mp _,h=>by simp only [ro] at h
 | .nilp,_=>rfl
theorem renL_ro (rn:Nat→Nat):∀l:List AV,roL l→renL rn l=l
 | [],_=>rfl
 | a::l,h=>by
  simp only [roL] at h
  simp only [renL]; rw [qt rn a h.1,renL_ro rn l h.2]
end
mutual
theorem AJ:∀a:AV,ren id a=a
 | .any=>rfl
 | .bool _=>rfl
 | .int _ _=>rfl
 | .str _=>rfl
 | .agg cs=>by simp only [ren]; rw [renL_id cs]
 | .tup cs=>by simp only [ren]; rw [renL_id cs]
 | .sl _ _ l=>by simp only [ren]; rw [renL_id l]
 | .own _ _ _ _=>rfl
 | .ptr _ _ _=>rfl
 | .rp cs=>by simp only [ren]; rw [renL_id cs]
 | .fn _ fs cap=>by simp only [ren]; rw [renL_id fs,renL_id cap]
 | .yld _=>rfl
 | .mp _=>rfl
 | .nilp=>rfl
theorem renL_id:∀l:List AV,renL id l=l
 | []=>rfl
 | a::l=>by simp only [renL]; rw [AJ a,renL_id l]
end
theorem xN (rn:Nat→Nat) (a:AV):(ren rn a).isAgg=a.isAgg:=by cases a<;>rfl
mutual
theorem Rv.clo {c c':Cx} {n:Nat} (hw:c'.w=c.w) (hF:c'.F=c.F) (hU:∀id,id<n→c'.U id) {rn:Nat→Nat} (hm:∀id e,c'.mu id=some e→c.mu (rn id)=some e):∀(a:AV) (v:Value),clo n a→Rv c (ren rn a) v→Rv c' a v
 | .any,_,_,_=>trivial
 | .bool _,_,_,h=>h
 | .int _ _,_,_,h=>h
 | .str _,_,_,h=>h
 | .agg cs,v,hro,h=>by
  simp only [Rv,ren] at h ⊢
  obtain ⟨vs,rfl,h1,h⟩:=h
  exact ⟨vs,rfl,h1,Rl.clo hw hF hU hm cs _ (by simpa only [Go.Proofs.YtdnmfaljidjijaaGreat.clo] using hro) h⟩
 | .tup cs,v,hro,h=>by
  simp only [Rv,ren] at h ⊢
  obtain ⟨vs,rfl,h⟩:=h
  exact ⟨vs,rfl,Rl.clo hw hF hU hm cs _ (by simpa only [Go.Proofs.YtdnmfaljidjijaaGreat.clo] using hro) h⟩
 | .sl sz tight l,v,hro,h=>by
  simp only [Rv,ren] at h ⊢
  obtain ⟨a,cap,h0,h1,h2,h3⟩:=h
  rw [eW] at h0 h1 h2
  subst h0
  replace h3:l=[]∨_:=h3.imp_left fun h=>List.eq_nil_of_length_eq_zero (by rw [←eW rn l,h]; rfl)
  refine ⟨a,cap,rfl,h1,h2,?_⟩
  rcases h3 with h3|⟨b,o,rfl,hb,hFb,hre⟩
  ·exact .inl h3
  ·exact .inr ⟨b,o,rfl,by rw [hw]; exact hb,by rw [hF]; exact hFb,Re.clo hw hF hU hm sz _ b o (by simpa only [Go.Proofs.YtdnmfaljidjijaaGreat.clo] using hro) hre⟩
 | .own sz id off len,v,hro,h=>by
  simp only [Rv,ren] at h ⊢
  simp only [Go.Proofs.YtdnmfaljidjijaaGreat.clo] at hro
  obtain ⟨h1,h2,a,cap,rfl,h3,h4⟩:=h
  exact ⟨hU id hro,fun e he=>h2 e (hm id e he),a,cap,rfl,h3,h4.imp (fun x=>x) fun ⟨b,o,ha,h5⟩=>⟨b,o,ha,fun e he=>h5 e (hm id e he)⟩⟩
 | .ptr id idx off,v,hro,h=>by
  simp only [Rv,ren] at h ⊢
  simp only [Go.Proofs.YtdnmfaljidjijaaGreat.clo] at hro
  obtain ⟨h1,b,o,rfl,h2⟩:=h
  exact ⟨hU id hro,b,o,rfl,fun e he=>h2 e (hm id e he)⟩
 | .rp cs,v,hro,h=>by
  simp only [Rv,ren] at h ⊢
  obtain ⟨b,o,vs,rfl,hb,hFb,h0,h1,h2⟩:=h
  exact ⟨b,o,vs,rfl,by rw [hw]; exact hb,by rw [hF]; exact hFb,h0,Rl.clo hw hF hU hm cs vs (by simpa only [Go.Proofs.YtdnmfaljidjijaaGreat.clo] using hro) h1,by rw [hw]; exact h2⟩
 | .fn f fs cap,v,hro,h=>by
  simp only [Rv,ren] at h ⊢
  simp only [Go.Proofs.YtdnmfaljidjijaaGreat.clo] at hro
  obtain ⟨a,b,rfl,h1,h2⟩:=h
  exact ⟨a,b,rfl,Rl.clo hw hF hU hm fs _ hro.1 h1,Rl.clo hw hF hU hm cap _ hro.2 h2⟩
 | .yld id,v,hro,h=>by
  simp only [Rv,ren] at h ⊢
  simp only [Go.Proofs.YtdnmfaljidjijaaGreat.clo] at hro
  obtain ⟨_,l,rfl,h2⟩:=h
  exact ⟨hU id hro,l,rfl,fun e he=>h2 e (hm id e he)⟩
 | .mp id,v,hro,h=>by
  simp only [Rv,ren] at h ⊢
  simp only [Go.Proofs.YtdnmfaljidjijaaGreat.clo] at hro
  obtain ⟨_,l,rfl,h2⟩:=h
  exact ⟨hU id hro,l,rfl,fun e he=>h2 e (hm id e he)⟩
 | .nilp,_,_,h=>h
theorem Rl.clo {c c':Cx} {n:Nat} (hw:c'.w=c.w) (hF:c'.F=c.F) (hU:∀id,id<n→c'.U id) {rn:Nat→Nat} (hm:∀id e,c'.mu id=some e→c.mu (rn id)=some e):∀(l:List AV) (vs:List Value),cloL n l→Rl c (renL rn l) vs→Rl c' l vs
 | [],_,_,h=>h
 | a::l,vs,hro,h=>by
  simp only [Rl,renL] at h ⊢
  simp only [cloL] at hro
  obtain ⟨v,r,rfl,h1,h2⟩:=h
  exact ⟨v,r,rfl,Rv.clo hw hF hU hm a v hro.1 h1,Rl.clo hw hF hU hm l r hro.2 h2⟩
theorem Re.clo {c c':Cx} {n:Nat} (hw:c'.w=c.w) (hF:c'.F=c.F) (hU:∀id,id<n→c'.U id) {rn:Nat→Nat} (hm:∀id e,c'.mu id=some e→c.mu (rn id)=some e) (sz:Nat):∀(l:List AV) (b o:Nat),cloL n l→Re c sz (renL rn l) b o→Re c' sz l b o
 | [],_,_,_,_=>trivial
 | a::l,b,o,hro,h=>by
  simp only [Re,renL,xN] at h ⊢
  simp only [cloL] at hro
  obtain ⟨⟨v,h1,h2,h5,h0,h3⟩,h4⟩:=h
  exact ⟨⟨v,Rv.clo hw hF hU hm a v hro.1 h1,h2,h5,h0,by rw [hw]; exact h3⟩,Re.clo hw hF hU hm sz l b _ hro.2 h4⟩
end
mutual
theorem ma {n m:Nat} (h:n≤m):∀a:AV,clo n a→clo m a
 | .own _ id _ _,k=>by simp only [clo] at k ⊢; omega
 | .ptr id _ _,k=>by simp only [clo] at k ⊢; omega
 | .agg cs,k=>by simp only [clo] at k ⊢; exact cloL_mono h cs k
 | .tup cs,k=>by simp only [clo] at k ⊢; exact cloL_mono h cs k
 | .sl _ _ l,k=>by simp only [clo] at k ⊢; exact cloL_mono h l k
 | .rp cs,k=>by simp only [clo] at k ⊢; exact cloL_mono h cs k
 | .fn _ fs cap,k=>by simp only [clo] at k ⊢; exact ⟨cloL_mono h fs k.1,cloL_mono h cap k.2⟩
 | .yld id,k=>by simp only [clo] at k ⊢; omega
 | .mp id,k=>by simp only [clo] at k ⊢; omega
 | .any,_=>by simp only [clo]
 | .bool _,_=>by simp only [clo]
 | .int _ _,_=>by simp only [clo]
 | .str _,_=>by simp only [clo]
 | .nilp,_=>by simp only [clo]
theorem cloL_mono {n m:Nat} (h:n≤m):∀l:List AV,cloL n l→cloL m l
 | [],_=>by simp only [cloL]
 | a::l,k=>by simp only [cloL] at k ⊢; exact ⟨ma h a k.1,cloL_mono h l k.2⟩
end
mutual
theorem vI {rn:Nat→Nat} {n:Nat} (h:∀id,id<n→rn id=id):∀a:AV,clo n a→ren rn a=a
 | .own _ id _ _,k=>by simp only [clo] at k; simp only [ren,h id k]
 | .ptr id _ _,k=>by simp only [clo] at k; simp only [ren,h id k]
 | .agg cs,k=>by simp only [clo] at k; simp only [ren,renL_low h cs k]
 | .tup cs,k=>by simp only [clo] at k; simp only [ren,renL_low h cs k]
 | .sl _ _ l,k=>by simp only [clo] at k; simp only [ren,renL_low h l k]
 | .rp cs,k=>by simp only [clo] at k; simp only [ren,renL_low h cs k]
 | .fn _ fs cap,k=>by simp only [clo] at k; simp only [ren,renL_low h fs k.1,renL_low h cap k.2]
 | .yld id,k=>by simp only [clo] at k; simp only [ren,h id k]
 | .mp id,k=>by simp only [clo] at k; simp only [ren,h id k]
 | .any,_=>rfl
 | .bool _,_=>rfl
 | .int _ _,_=>rfl
 | .str _,_=>rfl
 | .nilp,_=>rfl
theorem renL_low {rn:Nat→Nat} {n:Nat} (h:∀id,id<n→rn id=id):∀l:List AV,cloL n l→renL rn l=l
 | [],_=>rfl
 | a::l,k=>by simp only [cloL] at k; simp only [renL,vI h a k.1,renL_low h l k.2]
end
theorem H7 {ne:Nat} {t t0:Nat→AV} {f f0:Nat→BS} {n n0:Nat} (rn:Nat→Nat) (hne:ne≤n0) (hlow:∀id,id<ne→rn id=id) (hinj:∀i j,(f0 i ≠ .dead∧f0 i ≠ .fresh)→(f0 j ≠ .dead∧f0 j ≠ .fresh)→rn i=rn j→i=j)
 (ht:∀k,t0 k = .any∨(t k=ren rn (t0 k)∧clo n0 (t0 k))) (hl:∀id sz l,f0 id = .live sz l→f (rn id) = .live sz (renL rn l)∧cloL n0 l) (hi:∀id o tt,f0 id = .obj o tt→f (rn id) = .obj o tt∧(id<ne∨∀k,ro (tt k)))
 (hfr:∀id,f0 id = .fresh↔n0≤id):le ne ⟨t,f,n⟩ ⟨t0,f0,n0⟩:=by
 rintro c0 N a w ⟨c,rfl,hk,hfr',ht',hN,hd,hs,h0,hne'⟩
 have hmu:∀id e,(match f0 id with | .live .. | .obj .. => c.mu (rn id)|_=>none)=some e→c.mu (rn id)=some e:=by
  intro id e h
  split at h<;>first|exact h|cases h
 have hlv:∀id e,(match f0 id with | .live .. | .obj .. => c.mu (rn id)|_=>none)=some e→f0 id ≠ .dead∧f0 id ≠ .fresh:=by
  intro id e h
  split at h
  ·rename_i h1; rw [h1]; simp
  ·rename_i h1; rw [h1]; simp
  ·cases h
 let c':Cx:={ w:=c.w,mu:=fun id=>match f0 id with | .live .. | .obj .. => c.mu (rn id)|_=>none,U:=fun id=>f0 id ≠ .fresh,F:=c.F }
 have hU:∀id,id<n0→c'.U id:=fun id hid h=>by have:=(hfr id).1 h; omega
 refine ⟨c',rfl,?_,hfr,fun k=>?_,hN,cg.back (c:=c) (c':=c') rfl (fun id e h=>⟨rn id,hmu id e h⟩) hd,?_,h0,hne⟩
 ·constructor
  ·intro id; exact Iff.rfl
  ·intro id h; show (match f0 id with | .live .. | .obj .. => c.mu (rn id)|_=>none)=none
   simp only at h
   rcases h with h|h<;>rw [h]
  ·intro id sz l h
   simp only at h
   obtain ⟨g1,g2⟩:=hl id sz l h
   obtain ⟨e,he,h1,h2,h3⟩:=hk.live (rn id) sz _ g1
   refine ⟨e,?_,h1,fun hr=>(List.eq_nil_of_length_eq_zero (by rw [←eW rn l,h2 hr]; rfl)),fun hr=>?_⟩
   ·show (match f0 id with | .live .. | .obj .. => c.mu (rn id)|_=>none)=some e
    rw [h]; exact he
   ·obtain ⟨hre,rest⟩:=h3 hr
    refine ⟨Re.clo (c:=c) (c':=c') rfl rfl hU hmu sz l _ _ g2 hre,?_⟩
    simpa only [eW] using rest
  ·intro id o tt h
   simp only at h
   obtain ⟨g1,g2⟩:=hi id o tt h
   obtain ⟨e,oo,he,h1,h2,h3,hS,h4,h5,h6⟩:=hk.obj (rn id) o tt g1
   refine ⟨e,oo,?_,h1,h2,h3,hS,h4,fun k=>?_,fun k=>?_⟩
   ·show (match f0 id with | .live .. | .obj .. => c.mu (rn id)|_=>none)=some e
    rw [h]; exact he
   ·rcases g2 with g2|g2
    ·have hid:=hlow id g2
     have hcl:=h6 k
     rw [hid] at hcl
     refine Rv.clo (c:=c) (c':=c') rfl rfl hU hmu _ _ (ma (by omega) _ hcl) ?_
     rw [vI hlow _ (ma (by omega) _ hcl)]
     exact h5 k
    ·refine Rv.clo (c:=c) (c':=c') rfl rfl hU hmu _ _ (px (n:=n0) _ (g2 k)) ?_
     rw [qt rn _ (g2 k)]
     exact h5 k
   ·rcases g2 with g2|g2
    ·have:=h6 k; rwa [hlow id g2] at this
    ·exact px _ (g2 k)
  ·intro i j ei ej h1 h2 hr hrj hb
   exact hinj i j (hlv i ei h1) (hlv j ej h2) (hk.inj (rn i) (rn j) ei ej (hmu i ei h1) (hmu j ej h2) hr hrj hb)
  ·intro id e h; exact hk.shut (rn id) e (hmu id e h)
 ·rcases ht k with h|⟨h1,h2⟩
  ·simp only [h,Rv]
  ·have:=ht' k
   simp only at this
   rw [h1] at this
   exact Rv.clo (c:=c) (c':=c') rfl rfl hU hmu _ _ h2 this
 ·refine ⟨hs.os,hs.tape,hs.output,hs.size,hs.keep,fun id h=>hU id (by have:=h0 id h; omega),fun id h=>?_,fun id e h hr=>hs.new (rn id) e (hmu id e h) hr,hs.F⟩
  show (match f0 id with | .live .. | .obj .. => c.mu (rn id)|_=>none)=c0.mu id∨(match f0 id with | .live .. | .obj .. => c.mu (rn id)|_=>none)=none
  rw [hlow id (h0 id h)]
  split
  ·exact hs.mu id h
  ·exact hs.mu id h
  ·exact .inr rfl
def tm:List (Nat×AV)→Nat→AV
 | []=>fun _ => .any
 | (k,v)::r=>ap (tm r) k v
def hp (n:Nat):List (Nat×BS)→Nat→BS
 | []=>fun id=>if id<n then .dead else .fresh
 | (k,b)::r=>ap (hp n r) k b
@[go_sem] theorem Lr:tm []=fun _=>AV.any:=rfl
@[go_sem] theorem C4 (k:Nat) (v:AV) (r:List (Nat×AV)):tm ((k,v)::r)=ap (tm r) k v:=rfl
@[go_sem] theorem iC (n k:Nat) (b:BS) (r:List (Nat×BS)):hp n ((k,b)::r)=ap (hp n r) k b:=rfl
def cZ (ne n:Nat):Nat×BS→Prop
 | (_,.live _ l)=>cloL n l
 | (_,.fresh)=>False
 | (id,.obj _ t)=>id<ne∨∀k,ro (t k)
 | (_,.dead)=>True
@[go_sem] theorem j6 (ne n id sz:Nat) (l:List AV):cZ ne n (id,.live sz l)=cloL n l:=rfl
@[go_sem] theorem FW (ne n id:Nat):cZ ne n (id,.dead)=True:=rfl
@[go_sem] theorem FX (ne n id:Nat) (o:Obj):cZ ne n (id,.obj o (fun _ => .any))=True:=by simp [cZ,ro]
@[go_sem] theorem Hk (ne n id:Nat) (o:Obj) (k:Nat) (t:Nat→AV):cZ ne n (id,.obj o (cut k t))=(id<ne∨∀j,ro (cut k t j)):=rfl
@[go_sem] theorem FY (ne n id:Nat) (o:Obj) (t:Nat→AV):cZ ne n (id,.obj o t)=(id<ne∨∀j,ro (t j)):=rfl
@[go_sem] theorem Ka {t:Nat→AV} {i:Nat} {v:AV} (h:ro v):(∀j,ro (ap t i v j))↔∀j,j≠i→ro (t j):=by
 constructor
 ·intro g j hj; have:=g j; rwa [af _ _ _ hj] at this
 ·intro g j; by_cases hj:j=i
  ·subst hj; rw [ag]; exact h
  ·rw [af _ _ _ hj]; exact g j hj
theorem IL (l:List (Nat×AV)) (k:Nat):tm l k = .any∨∃p∈l,p.1=k∧tm l k=p.2:=by
 induction l with
 | nil=>exact .inl rfl
 | cons p l ih =>
  obtain ⟨j,v⟩:=p
  by_cases h:k=j
  ·subst h; exact .inr ⟨(k,v),by simp,rfl,ag _ _ _⟩
  ·rw [C4,af _ _ _ h]
   exact ih.imp (fun x=>x) fun ⟨p,h1,h2⟩=>⟨p,by simp [h1],h2⟩
theorem vn (n:Nat) (l:List (Nat×BS)) (k:Nat):hp n l k=(if k<n then .dead else .fresh)∨∃p∈l,p.1=k∧hp n l k=p.2:=by
 induction l with
 | nil=>exact .inl rfl
 | cons p l ih =>
  obtain ⟨j,v⟩:=p
  by_cases h:k=j
  ·subst h; exact .inr ⟨(k,v),by simp,rfl,ag _ _ _⟩
  ·rw [iC,af _ _ _ h]
   exact ih.imp (fun x=>x) fun ⟨p,h1,h2⟩=>⟨p,by simp [h1],h2⟩
def nm:List (Nat×Nat)→Nat→Nat
 | []=>fun id=>id
 | (k,v)::r=>fun id=>if id=k then v else nm r id
@[go_sem] theorem ji (id:Nat):nm [] id=id:=rfl
@[go_sem] theorem dG (k v:Nat) (r:List (Nat×Nat)) (id:Nat):nm ((k,v)::r) id=if id=k then v else nm r id:=rfl
def gh (rn:Nat→Nat):BS→BS
 | .live sz l => .live sz (renL rn l)
 | b=>b
@[go_sem] theorem cV (rn:Nat→Nat) (sz:Nat) (l:List AV):gh rn (.live sz l) = .live sz (renL rn l):=rfl
@[go_sem] theorem IC (rn:Nat→Nat) (o:Obj) (t:Nat→AV):gh rn (.obj o t) = .obj o t:=rfl
attribute [go_sem] ren renL cn bQ cloL
theorem gX {ne:Nat} {t:Nat→AV} {f:Nat→BS} {n n0:Nat} {tl:List (Nat×AV)} {hl:List (Nat×BS)} (rl:List (Nat×Nat)) (hrl:∀p∈rl,ne≤p.1) (hri:∀p∈hl,∀q∈hl,nm rl p.1=nm rl q.1→p.1=q.1) (hne:ne≤n0) (ht:∀p∈tl,t p.1=ren (nm rl) p.2∧clo n0 p.2) (hh:∀p∈hl,p.1<n0∧f (nm rl p.1)=gh (nm rl) p.2∧cZ ne n0 p) :
 le ne ⟨t,f,n⟩ ⟨tm tl,hp n0 hl,n0⟩:=by
 have hmem:∀i,(hp n0 hl i ≠ .dead∧hp n0 hl i ≠ .fresh)→∃p∈hl,p.1=i:=by
  intro i hi
  rcases vn n0 hl i with h|⟨p,h1,h2,_⟩
  ·rw [h] at hi; split at hi<;>simp at hi
  ·exact ⟨p,h1,h2⟩
 refine H7 (nm rl) hne (fun id hid=>?_) (fun i j hi hj hij=>?_) (fun k=>?_) (fun id sz l h=>?_) (fun id o tt h=>?_) fun id=>?_
 ·clear hri ht hh
  induction rl with
  | nil=>rfl
  | cons p rl ih =>
   obtain ⟨k,v⟩:=p
   have:=hrl (k,v) (by simp)
   simp only at this
   rw [dG,if_neg (by omega)]
   exact ih fun q hq=>hrl q (by simp [hq])
 ·obtain ⟨p,h1,rfl⟩:=hmem i hi
  obtain ⟨q,h2,rfl⟩:=hmem j hj
  exact hri p h1 q h2 hij
 ·rcases IL tl k with h|⟨p,h1,rfl,h3⟩
  ·exact .inl h
  ·rw [h3]; exact .inr (ht p h1)
 ·rcases vn n0 hl id with h1|⟨p,h1,rfl,h3⟩
  ·rw [h] at h1; split at h1<;>cases h1
  ·obtain ⟨_,g2,g3⟩:=hh p h1
   obtain ⟨pi,pb⟩:=p
   simp only at h3 g2
   rw [h3] at h; subst h
   exact ⟨g2,g3⟩
 ·rcases vn n0 hl id with h1|⟨q,h1,rfl,h3⟩
  ·rw [h] at h1; split at h1<;>cases h1
  ·obtain ⟨_,g2,g3⟩:=hh q h1
   obtain ⟨pi,pb⟩:=q
   simp only at h3 g2
   rw [h3] at h; subst h
   exact ⟨g2,g3⟩
 ·rcases vn n0 hl id with h1|⟨p,h1,rfl,h3⟩
  ·rw [h1]; split<;>simp<;>omega
  ·obtain ⟨g1,g2,g3⟩:=hh p h1
   obtain ⟨pi,pb⟩:=p
   rw [h3]
   simp only at g1
   constructor
   ·intro h; simp only at h; subst h; simp only [cZ] at g3
   ·intro h; simp only at h; omega
def CX (n:Nat) (tl:List (Nat×AV)) (hl:List (Nat×BS)):St:=⟨tm tl,hp n hl,n⟩
section
variable {P:Program} {z:Bool} {ne:Nat} {Q:AEx→St→Prop} {k:List Itm} {t:Nat→AV} {f:Nat→BS} {n:Nat}
theorem zS {c:Code} {α:Type} (tl:α→List (Nat×AV)) (hl:α→List (Nat×BS)) (m:α→Nat) (x0:α) (rl:List (Nat×Nat)) (hrl:∀p∈rl,ne≤p.1) (hri:∀p∈hl x0,∀q∈hl x0,nm rl p.1=nm rl q.1→p.1=q.1) (hne:ne≤n) (ht:∀p∈tl x0,t p.1=ren (nm rl) p.2∧clo n p.2) (hh:∀p∈hl x0,p.1<n∧f (nm rl p.1)=gh (nm rl) p.2∧cZ ne n p)
 (h:∀x,go P z ne Q (.code c :: .lp α (fun y=>CX n (tl y) (hl y)) m x::k) (tm (tl x)) (hp n (hl x)) n):go P z ne Q (.code (.loop c)::k) t f n :=
 lM (fun y=>CX n (tl y) (hl y)) m x0 (gX rl hrl hri hne ht hh) h
theorem ak {c:Code} {α:Type} (n1:Nat) (tl:α→List (Nat×AV)) (hl:α→List (Nat×BS)) (m:α→Nat) (x0:α) (rl:List (Nat×Nat)) (hrl:∀p∈rl,ne≤p.1) (hri:∀p∈hl x0,∀q∈hl x0,nm rl p.1=nm rl q.1→p.1=q.1) (hne:ne≤n1) (ht:∀p∈tl x0,t p.1=ren (nm rl) p.2∧clo n1 p.2) (hh:∀p∈hl x0,p.1<n1∧f (nm rl p.1)=gh (nm rl) p.2∧cZ ne n1 p)
 (h:∀x,go P z ne Q (.code c :: .lp α (fun y=>CX n1 (tl y) (hl y)) m x::k) (tm (tl x)) (hp n1 (hl x)) n1):go P z ne Q (.code (.loop c)::k) t f n :=
 lM (fun y=>CX n1 (tl y) (hl y)) m x0 (gX rl hrl hri hne ht hh) h
theorem ab {n0:Nat} {α:Type} {tl:α→List (Nat×AV)} {hl:α→List (Nat×BS)} {m:α→Nat} {x:α} (y:α) (hm:m y<m x) (rl:List (Nat×Nat)) (hrl:∀p∈rl,ne≤p.1) (hri:∀p∈hl y,∀q∈hl y,nm rl p.1=nm rl q.1→p.1=q.1) (hne:ne≤n0) (ht:∀p∈tl y,t p.1=ren (nm rl) p.2∧clo n0 p.2) (hh:∀p∈hl y,p.1<n0∧f (nm rl p.1)=gh (nm rl) p.2∧cZ ne n0 p) :
 go P z ne Q (.lp α (fun y=>CX n0 (tl y) (hl y)) m x::k) t f n:=by
 rw [HT]
 exact ⟨y,gX rl hrl hri hne ht hh,hm⟩
end
theorem bC {x:Int} (h : -9223372036854775808≤x∧x≤9223372036854775807):IntKind.i64.wrap x=x:=by rw [IntKind.wrap_i64]; omega
theorem a8 {x:Int} (h:0≤x∧x≤18446744073709551615):IntKind.u64.wrap x=x:=by
 simp only [IntKind.wrap,IntKind.bits,IntKind.signed]
 simp only [Bool.false_and,Bool.false_eq_true,if_false]
 omega
open Go
set_option linter.unusedSimpArgs false
set_option linter.unusedVariables false
def dH (sz id:Nat) (l:List AV):AV:=if l=[] then .sl 0 true [] else .own sz id 0 l.length
def gM (sz id:Nat) (l:List AV):List (Nat×BS):=if l=[] then [] else [(id,.live sz l)]
def slv (sz:Nat) (l:List AV):AV:=if l=[] then .sl 0 true [] else .sl sz false l
@[go_sem] theorem pm (sz id:Nat):dH sz id [] = .sl 0 true []:=rfl
@[go_sem] theorem I9 (sz id:Nat):gM sz id []=[]:=rfl
theorem bM {sz id:Nat} {l:List AV} (h:l≠[]):dH sz id l = .own sz id 0 l.length:=by simp [dH,h]
theorem cQ {sz id:Nat} {l:List AV} (h:l≠[]):gM sz id l=[(id,.live sz l)]:=by simp [gM,h]
@[go_sem] theorem Bv (sz id:Nat) (l:List AV) (x:AV):dH sz id (l++[x]) = .own sz id 0 (l.length+1):=by simp [dH]
@[go_sem] theorem uK (sz id:Nat) (l:List AV) (x:AV):gM sz id (l++[x])=[(id,.live sz (l++[x]))]:=by simp [gM]
def kill (id:Nat) (l:List AV) (f:Nat→BS):Nat→BS:=if l=[] then f else ap f id .dead
@[go_sem] theorem JJ (id:Nat) (l:List AV) (f:Nat→BS) (j:Nat):kill id l f j=if j=id then (if l=[] then f j else .dead) else f j:=by
 unfold kill
 by_cases h:l=[]
 ·simp [h]
 ·simp only [h,if_false,ap]
@[go_sem] theorem H9 (a b:Nat) (e:TypeId) (z:List AV) (sz id:Nat) (l:List AV):Ac (some ⟨a,b,.slice e,z⟩) (dH sz id l)=some (True,.int .i64 l.length):=by
 unfold dH; split
 ·rename_i h; subst h; rfl
 ·rfl
@[go_sem] theorem J9 (rn:Nat→Nat) (sz id:Nat) (l:List AV):ren rn (dH sz id l)=dH sz (rn id) l:=by
 unfold dH; split
 ·rfl
 ·rfl
@[go_sem] theorem I8 {sz id:Nat} {l:List AV} {Q:Nat→BS→Prop}:(∀a b,(a,b)∈gM sz id l→Q a b)=(l≠[]→Q id (.live sz l)):=by
 by_cases h:l=[]
 ·simp [gM,h]
 ·simp [gM,h]
@[go_sem] theorem GN {sz id:Nat} {l:List AV} {Q:Nat×BS→Prop}:(∀a,a∈gM sz id l→Q a)=(l≠[]→Q (id,.live sz l)):=by
 by_cases h:l=[]
 ·simp [gM,h]
 ·simp [gM,h]
@[go_sem] theorem Gh (n sz id:Nat) (l:List AV) (j:Nat):hp n (gM sz id l) j=if j=id∧l≠[] then .live sz l else if j<n then .dead else .fresh:=by
 by_cases h:l=[]
 ·simp [gM,h,hp]
 ·rw [cQ h,iC,Bm]; simp [h,hp]
@[go_sem] theorem Df (n sz id:Nat) (l:List AV):clo n (dH sz id l)=(l≠[]→id<n):=by
 unfold dH; split<;>simp [clo,cloL, *]
section
variable {P:Program} {zm:Bool} {ne:Nat} {Q:AEx→St→Prop} {k:List Itm} {t:Nat→AV} {f:Nat→BS} {n:Nat}
theorem bF {id' id a b:Nat} {kd:TK} {z:List AV} {l:List AV} {y:AV} {new:List AV} {d:Option Tmp} (h1:sD y=a∨new=[]) (h2:0<a) (h3:0<b) (h4:c8 f y) (h5:((l.length+new.length:Nat):Int)*b≤70368744177664) (h6:l≠[]→f id = .live a l)
 (h:go P zm ne Q k (ay t d (.own a id' 0 (l.length+new.length))) (ap (kill id l f) id' (.live a (l++new))) n):ox P zm ne Q id' (some ⟨a,b,kd,z⟩) (dH a id l) y (some new) d k t f n:=by
 by_cases hl:l=[]
 ·subst hl
  rw [pm,zn]
  exact ⟨rfl,⟨.inr rfl,h1,h2,h3,.inl rfl⟩,h4,h5,by simpa [kill] using h⟩
 ·rw [bM hl,wR,h6 hl,tE]
  refine ⟨⟨rfl,h1,h2,h3⟩,h4,by omega,h5,?_⟩
  simpa [kill,hl] using h
end
def Wk (a b:AV):Prop:=(∀c v,Rv c a v→Rv c b v)∧(ro a→ro b)
def uG (l m:List AV):Prop:=(∀c vs,Rl c l vs→Rl c m vs)∧(roL l→roL m)
theorem Wk.refl (a:AV):Wk a a:=⟨fun _ _ h=>h,fun h=>h⟩
theorem Wk.any (a:AV):Wk a .any:=⟨fun _ _ _=>trivial,fun _=>trivial⟩
theorem Wk.sl (sz:Nat) (tight:Bool) (l:List AV):Wk (.sl sz tight l) (.sl sz false l):=by
 refine ⟨fun c v h=>?_,fun h=>h⟩
 simp only [Rv] at h ⊢
 obtain ⟨a,cap,h0,h1,h2,h3⟩:=h
 exact ⟨a,cap,h0,h1,fun h=>(by cases h),h3⟩
theorem Wk.nil (sz sz':Nat) (tight:Bool):Wk (.sl sz tight []) (.sl sz' false []):=by
 refine ⟨fun c v h=>?_,fun h=>h⟩
 simp only [Rv] at h ⊢
 obtain ⟨a,cap,h0,h1,h2,h3⟩:=h
 exact ⟨a,cap,h0,h1,fun h=>(by cases h),.inl trivial⟩
theorem Wk.slv (sz:Nat) (l:List AV):Wk (slv sz l) (.sl sz false l):=by
 unfold Go.Proofs.YtdnmfaljidjijaaGreat.slv
 split
 ·rename_i h; subst h; exact Wk.nil 0 sz true
 ·exact Wk.refl _
theorem uG.nil:uG [] []:=⟨fun _ _ h=>h,fun h=>h⟩
theorem uG.cons {a b:AV} {l m:List AV} (h:Wk a b) (k:uG l m):uG (a::l) (b::m):=by
 refine ⟨fun c vs hv=>?_,fun hr=>?_⟩
 ·simp only [Rl] at hv ⊢
  obtain ⟨v,r,h0,h1,h2⟩:=hv
  exact ⟨v,r,h0,h.1 c v h1,k.1 c r h2⟩
 ·simp only [roL] at hr ⊢
  exact ⟨h.2 hr.1,k.2 hr.2⟩
theorem uG.refl (l:List AV):uG l l:=⟨fun _ _ h=>h,fun h=>h⟩
theorem Wk.tup {l m:List AV} (h:uG l m):Wk (.tup l) (.tup m):=by
 refine ⟨fun c v hv=>?_,fun hr=>?_⟩
 ·simp only [Rv] at hv ⊢
  obtain ⟨vs,h0,h1⟩:=hv
  exact ⟨vs,h0,h.1 c _ h1⟩
 ·simp only [ro] at hr ⊢; exact h.2 hr
theorem Wk.agg {l m:List AV} (h:uG l m):Wk (.agg l) (.agg m):=by
 refine ⟨fun c v hv=>?_,fun hr=>?_⟩
 ·simp only [Rv] at hv ⊢
  obtain ⟨vs,h0,h2,h1⟩:=hv
  exact ⟨vs,h0,h2,h.1 c _ h1⟩
 ·simp only [ro] at hr ⊢; exact h.2 hr
theorem aa.weaken {P:Program} {g:FuncId} {args:List AV} {r r':AV} (h:aa P g args r) (hw:Wk r r'):aa P g args r' :=
 ⟨hw.2 h.1,fun c vs h1 h2 h3=>(h.2 c vs h1 h2 h3).mono fun v w' ⟨c',q1,q2,q3⟩=>⟨c',q1,q2,hw.1 c' v q3⟩⟩
theorem aa.args {P:Program} {g:FuncId} {args args':List AV} {r:AV} (h:aa P g args' r) (hw:uG args args'):aa P g args r :=
 ⟨h.1,fun c vs h1 h2 h3=>h.2 c vs h1 h2 (hw.1 c vs h3)⟩
open Go Go.RowKit
theorem aa.calls {P:Program} {g:FuncId} {fn:Func} {c:Code} (hf:P.funcs[g]?=some fn) (hb:fn.body=some c) (hname:(fn.name == "runtime.NumGoroutine")=false) {args:List AV} {r:AV} (h:aa P g args r) {vs:List Value} {W:World}
 (hl:∀cx:Cx,cx.w=W→(∀b,¬cx.F b)→Rl cx args vs):Calls P g vs.toArray W fun e W'=>∃v,e = .returned v∧Below W.heap.size W W'∧∃cx:Cx,cx.w=W'∧Rv cx r v:=by
 have h1:=h.2 { w:=W,mu:=fun _=>none,U:=fun _=>False,F:=fun _=>False } vs (fun _=>rfl) (fun _ h=>h) (hl _ rfl fun _ h=>h)
 have hc:(callFunc g vs.toArray).run P W = .ok (.enter g vs.toArray) W:=by
  unfold callFunc
  simp only [Sem.run_bind,run_program,Result.andThen_ok,hf,hname,Bool.false_eq_true,if_false,hb,Option.isNone_some,Sem.run_pure]
 unfold bD at h1
 rw [hc] at h1
 refine Calls.mono h1 ?_
 rintro e W' ⟨v,rfl,c',rfl,hs,hr⟩
 exact ⟨v,rfl,⟨hs.os,hs.tape,hs.output,hs.size,fun b hb=>hs.keep b hb fun id e he=>(by cases he)⟩,c',rfl,hr⟩
end Go.Proofs.YtdnmfaljidjijaaGreat
