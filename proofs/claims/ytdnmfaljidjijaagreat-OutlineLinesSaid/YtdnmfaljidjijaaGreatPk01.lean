import Derived.Test.YtdnmfaljidjijaaGreatPk00
import Derived.Below
namespace Go.Proofs.YtdnmfaljidjijaaGreat
open Go
set_option linter.unusedSimpArgs false
set_option linter.unusedVariables false
structure St where
 t:Nat→AV
 f:Nat→BS
 n:Nat
def cU (c:Cx) (lo:Nat):List Deferred→Prop
 | []=>True
 | d::ds=>(∃D,d={ target := .collected D,args := #[] }∧lo≤D∧c.w.heap[D]?=some (.deferred (some []))∧∀id e,c.mu id=some e→e.real=true→e.block≠D)∧d ∉ ds∧cU c lo ds
theorem cU.keep {c c':Cx} (hs:Stp c c') {lo:Nat}:∀ {ds:List Deferred},cU c lo ds→cU c' lo ds
 | [],_=>trivial
 | d::ds,⟨⟨D,h1,h2,h3,h4⟩,h5,h6⟩=>by
  have hlt:D<c.w.heap.size:=(Array.getElem?_eq_some_iff.1 h3).1
  refine ⟨⟨D,h1,h2,by rw [hs.keep D hlt h4]; exact h3,fun id e he hr hb=>?_⟩,h5,h6.keep hs⟩
  rcases hs.new id e he hr with h7|⟨j,e',hj,hr',hb'⟩
  ·omega
  ·exact h4 j e' hj hr' (hb'.trans hb)
theorem cU.back {c c':Cx} (hw:c'.w=c.w) (hm:∀id e,c'.mu id=some e→∃id',c.mu id'=some e) {lo:Nat}:∀ {ds:List Deferred},cU c lo ds→cU c' lo ds
 | [],_=>trivial
 | d::ds,⟨⟨D,h1,h2,h3,h4⟩,h5,h6⟩ =>
  ⟨⟨D,h1,h2,by rw [hw]; exact h3,fun id e he hr=>by obtain ⟨id',h7⟩:=hm id e he; exact h4 id' e h7 hr⟩,h5,h6.back hw hm⟩
def mY (c0:Cx) (ne N:Nat) (s:St) (a:Act) (w:World):Prop :=
 ∃c:Cx,c.w=w∧HOk c s.f∧(∀j,s.f j = .fresh↔s.n≤j)∧(∀k,Rv c (s.t k) (a.tmps.getD k undef))∧a.tmps.size=N∧cU c c0.w.heap.size a.defers∧Stp c0 c∧(∀j,c0.U j→j<ne)∧ne≤s.n
def le (ne:Nat) (s s0:St):Prop:=∀c0 N a w,mY c0 ne N s a w→mY c0 ne N s0 a w
def aG (t:Nat→AV) (dst:Option Tmp) (v:AV):Nat→AV :=
 match dst with
 | some d=>ar t d v
 | none=>t
def er (ops:Array Oper) (j:Nat):Option Tmp:=(ops[j]?).bind (·.dst)
def m9 (b:BS):BS:=match b with
 | .fresh => .dead
 | b=>b
def dB (n:Nat) (f:Nat→BS):Nat→BS:=fun j=>if j<n then m9 (f j) else f j
theorem D6 {b:BS} (h:b ≠ .fresh):m9 b=b:=by cases b<;>first|rfl|exact absurd rfl h
theorem D0 {n:Nat} {f:Nat→BS} {id sz:Nat} {l:List AV} (h:dB n f id = .live sz l):f id = .live sz l:=by
 unfold dB at h; split at h
 ·cases hf:f id<;>rw [hf] at h<;>simp [m9] at h ⊢; exact h
 ·exact h
theorem Gu {n:Nat} {f:Nat→BS} {id:Nat} {o:Obj} {t:Nat→AV} (h:dB n f id = .obj o t):f id = .obj o t:=by
 unfold dB at h; split at h
 ·cases hf:f id<;>rw [hf] at h<;>simp [m9] at h ⊢; exact h
 ·exact h
theorem iT {n:Nat} {f:Nat→BS} (hfr:∀j,n≤j→f j = .fresh) (j:Nat):dB n f j = .fresh↔n≤j:=by
 unfold dB
 by_cases h:j<n
 ·rw [if_pos h]
  constructor
  ·intro hf; cases hj:f j<;>rw [hj] at hf<;>simp [m9] at hf
  ·intro; omega
 ·rw [if_neg h]; exact ⟨fun _=>by omega,fun h=>hfr j h⟩
def Cx.past (c:Cx) (n:Nat):Cx:={ c with U:=fun j=>c.U j∨j<n }
theorem Stp.past (c:Cx) (n:Nat):Stp c (c.past n) :=
 ⟨rfl,rfl,rfl,Nat.le_refl _,fun _ _ _=>rfl,fun _ h => .inl h,fun _ _ => .inl rfl,fun id e h hr => .inr ⟨id,e,h,hr,rfl⟩,fun _ _=>⟨fun h=>h,fun _ h=>h⟩⟩
theorem HOk.past {c:Cx} {f:Nat→BS} (hk:HOk c f) {n:Nat} (hfr:∀j,n≤j→f j = .fresh):HOk (c.past n) (dB n f):=by
 constructor
 ·intro id
  have:=(iT hfr id).trans (Nat.not_lt (a:=id) (b:=n)).symm
  constructor
  ·rintro (h|h) hf
   ·have h1:=this.1 hf
    exact (hk.used id).1 h (hfr id (by omega))
   ·exact this.1 hf h
  ·intro h
   right
   rcases Nat.lt_or_ge id n with h1|h1
   ·exact h1
   ·exact absurd (this.2 (by omega)) h
 ·intro id h
  refine hk.none id ?_
  unfold dB at h
  split at h
  ·cases hf:f id<;>rw [hf] at h<;>simp [m9] at h ⊢
  ·exact h
 ·intro id sz l h
  obtain ⟨e,he,h1,h2,h3⟩:=hk.live id sz l (D0 h)
  refine ⟨e,he,h1,h2,fun hr=>?_⟩
  obtain ⟨hre,rest⟩:=h3 hr
  refine ⟨Re.of_get fun i a hi=>?_,rest⟩
  obtain ⟨v,g1,g2⟩:=hre.get i a hi
  exact ⟨v,g1.keep (Stp.past c n) hk.shut,g2⟩
 ·intro id o t h
  obtain ⟨e,oo,h1,h2,h3,h4,hS,h5,h6,h7⟩:=hk.obj id o t (Gu h)
  exact ⟨e,oo,h1,h2,h3,h4,hS,h5,fun k=>(h6 k).keep (Stp.past c n) hk.shut,h7⟩
 ·exact hk.inj
 ·exact hk.shut
def pI (q:Bool) (n0 i n:Nat):Nat:=bif q then n0+i else n
def NZ (acc:List Nat) (o:Oper):Nat:=o.after.toList.foldl (fun s e=>if Region.binds .any e then s ||| (2 ^ e.on ||| acc.getD e.on 0) else s) 0
def vp (acc:List Nat):List Oper→List Nat
 | []=>acc
 | o::r=>vp (acc++[NZ acc o]) r
def dv (ops:Array Oper) (i:Nat):Bool:=(List.range ops.size).all fun j=>j == i || (((vp [] ops.toList).getD i 0).testBit j || ((vp [] ops.toList).getD j 0).testBit i)
def gB (op:Op):Bool:=match aH op with
 | .g=>true
 | _=>false
def Ew (ops:Array Oper) (i k:Nat):Bool:=decide (k<i) && ((match ops[k]? with
 | some o=>gB o.op
 | none=>false) && !((vp [] ops.toList).getD i 0).testBit k)
def fe (z q:Bool) (ops:Array Oper) (n0 i:Nat):Nat→Bool:=fun m=>q && (decide (n0≤m) && (z || Ew ops i (m-n0)))
theorem J8 (z:Bool) (ops:Array Oper) (n0 i:Nat) (f:Nat→BS):fz (fe z false ops n0 i) f=f:=by funext m; simp [fz,fe]
theorem FF (ops:Array Oper) (n0 i:Nat) (f:Nat→BS) (m:Nat):fz (fe false true ops n0 i) f m=if n0≤m then (bif Ew ops i (m-n0) then .dead else f m) else f m:=by
 unfold fz fe
 by_cases h:n0≤m<;>simp [h]
theorem J9 (ops:Array Oper) (n0 i:Nat) (f:Nat→BS) (m:Nat):fz (fe true true ops n0 i) f m=if n0≤m then .dead else f m:=by
 unfold fz fe
 by_cases h:n0≤m<;>simp [h]
def LK (ops:Array Oper) (n0 i:Nat) (f f':Nat→BS):Prop:=∀m,fe true true ops n0 i m=false→f' m=f m
theorem Gg (ops:Array Oper) (n0 i:Nat) (f:Nat→BS) {id:Nat} {b:BS} (h:n0≤id):LK ops n0 i f (ar f id b)=True:=by
 refine eq_true fun m hm=>ac _ _ _ fun he=>?_
 subst he
 simp [fe,h] at hm
def du (P : Program) (z q : Bool) (ops : Array Oper) (n0 : Nat) (K : St → Prop) : Nat → List Oper → (Nat → AV) → (Nat → BS) → Nat → Prop
  | _, [], t, f, n => K ⟨t, bif q then dB n f else f, n⟩
  | i, o :: rest, t, f, n =>
    match o.guard with
    | none => fY P z q (dv ops i) (fe z q ops n0 i) (pI q n0 i n) n o.op (a_ t) f (fun v f' n' => du P z q ops n0 K (i + 1) rest (aG t o.dst v) f' n')
    | some (j, want) =>
      match er ops j with
      | some d => match t d with
        | .bool b => (b = want → fY P z q (dv ops i) (fe z q ops n0 i) (pI q n0 i n) n o.op (a_ (ar t d (.bool want))) f (fun v f' n' => du P z q ops n0 K (i + 1) rest (aG (ar t d (.bool want)) o.dst v) f' n')) ∧
            (b = !want → du P z q ops n0 K (i + 1) rest (aG (ar t d (.bool (!want))) o.dst (.tup [])) f n)
        | .tup [] => du P z q ops n0 K (i + 1) rest (aG t o.dst (.tup [])) f n
        | _ => False
      | none => False
theorem ij {α:Type} (t:Nat→α) (d:Nat) {v:α} (h:t d=v):ar t d v=t:=by
 funext k; unfold ar; split
 ·rename_i hk; rw [hk,h]
 ·rfl
theorem jV {c:Cx} {t:Nat→AV} {a:Act} (h:∀k,Rv c (t k) (a.tmps.getD k undef)):∀x,Rv c (a_ t x) (a.eval x):=by
 intro x
 cases x with
 | tmp n=>exact h n
 | const v=>exact no c v
 | global g=>simp only [a_,Rv]
 | func g=>simp only [a_,Rv]; exact ⟨#[],#[],rfl,by simp [Rl],by simp [Rl]⟩
theorem fh {c:Cx} {t:Nat→AV} {a:Act} (h:∀k,Rv c (t k) (a.tmps.getD k undef)) {dst:Option Tmp} (hd:∀d,dst=some d→d<a.tmps.size) {v:AV} {r:Value} (hr:Rv c v r):∀k,Rv c (aG t dst v k) ((a.put dst r).tmps.getD k undef):=by
 intro k
 cases dst with
 | none=>exact h k
 | some d =>
  have hlt:=hd d rfl
  simp only [aG,Act.put,ar]
  by_cases hk:k=d
  ·subst hk
   rw [if_pos rfl]
   simp [Array.getElem?_setIfInBounds,hlt,hr]
  ·rw [if_neg hk]
   have:=h k
   simpa [Array.getElem?_setIfInBounds_ne (Ne.symm hk)] using this
theorem cO {a:Act} {dst:Option Tmp} {v:Value}:(a.put dst v).tmps.size=a.tmps.size:=by
 cases dst<;>simp [Act.put]
theorem bK {a:Act} {dst:Option Tmp} {v:Value}:(a.put dst v).defers=a.defers:=by
 cases dst<;>simp [Act.put]
theorem iG {ops:Array Oper} {j d:Nat} {b:Bool} {c:Cx} {t:Nat→AV} {a:Act} (h:∀k,Rv c (t k) (a.tmps.getD k undef)) (hg:er ops j=some d) (ht:t d = .bool b):yielded ops a.tmps j=some b:=by
 unfold er at hg
 unfold yielded
 rw [hg]
 have:=h d
 rw [ht] at this
 simp only [Rv] at this
 simp only [Option.bind_some]
 cases hd:a.tmps[d]? with
 | none =>
  rw [Array.getD_eq_getD_getElem?,hd] at this
  simp [undef] at this
 | some v =>
  rw [Array.getD_eq_getD_getElem?,hd] at this
  simp only [Option.getD_some] at this
  subst this; rfl
theorem e_ (c:Cx):Rv c (.tup []) undef:=by simp only [Rv,Rl]; exact ⟨#[],rfl,rfl⟩
theorem gm {ops:Array Oper} {j d:Nat} {c:Cx} {t:Nat→AV} {a:Act} (h:∀k,Rv c (t k) (a.tmps.getD k undef)) (hg:er ops j=some d) (ht:t d = .tup []):yielded ops a.tmps j=none:=by
 unfold er at hg
 unfold yielded
 rw [hg]
 have:=h d
 rw [ht] at this
 simp only [Rv,Rl] at this
 obtain ⟨vs,h1,h2⟩:=this
 simp only [Option.bind_some]
 cases hd:a.tmps[d]? with
 | none=>rfl
 | some v =>
  rw [Array.getD_eq_getD_getElem?,hd] at h1
  simp only [Option.getD_some] at h1
  subst h1; rfl
section
variable {rr:Option Nat} {P:Program} {ops:Array Oper} {Q:Exit→Act→World→Prop} {o:Oper} {rest:List Oper} {a:Act} {w:World}
theorem vg (hw:Region.wanted o (yielded ops a.tmps)=true) (h:o.wpIn (Fr rr) 0 P a w (wpListIn (Fr rr) 0 P ops Q rest) Q):wpListIn (Fr rr) 0 P ops Q (o::rest) a w:=by
 unfold wpListIn; rw [if_pos hw]; exact h
theorem vf (hw:Region.wanted o (yielded ops a.tmps)=false) (h:wpListIn (Fr rr) 0 P ops Q rest (a.put o.dst undef) w):wpListIn (Fr rr) 0 P ops Q (o::rest) a w:=by
 unfold wpListIn; rw [if_neg (by simp [hw])]; exact ⟨fun _ _=>trivial,h⟩
end
theorem vz {P:Program} {z:Bool} {rr:Option Nat} {ops:Array Oper} {n0 ne N:Nat} {c0:Cx} {K:St→Prop} {Q:Exit→Act→World→Prop} (hQ:∀s a w,K s→mY c0 ne N s a w→Q .normal a w) :
 ∀(l:List Oper) (i:Nat) (t:Nat→AV) (f:Nat→BS) (n:Nat) (a:Act) (c:Cx),du P z false ops n0 K i l t f n→(∀o∈l,∀d,o.dst=some d→d<N)→HOk c f→(∀j,f j = .fresh↔n≤j) →
  (∀k,Rv c (t k) (a.tmps.getD k undef))→a.tmps.size=N→cU c c0.w.heap.size a.defers→Stp c0 c→(∀j,c0.U j→j<ne)→ne≤n→wpListIn (Fr rr) 0 P ops Q l a c.w:=by
 intro l
 induction l with
 | nil =>
  intro i t f n a c h _ hk hfr ht hN hd hs h0 hne
  exact wpListIn_nil (hQ ⟨t,f,n⟩ a c.w h ⟨c,rfl,hk,hfr,ht,hN,hd,hs,h0,hne⟩)
 | cons o rest ih =>
  intro i t f n a c h hdst hk hfr ht hN hd hs h0 hne
  have hds:∀d,o.dst=some d→d<a.tmps.size:=fun d h=>by rw [hN]; exact hdst o (by simp) d h
  have step:∀t',(∀k,Rv c (t' k) (a.tmps.getD k undef))→fY P z false (dv ops i) (fe z false ops n0 i) (pI false n0 i n) n o.op (a_ t') f (fun v f' n'=>du P z false ops n0 K (i+1) rest (aG t' o.dst v) f' n')→o.wpIn (Fr rr) 0 P a c.w (wpListIn (Fr rr) 0 P ops Q rest) Q:=by
   intro t' ht' hop
   refine jn hop hk (fun j hj=>(hfr j).2 hj) ((hfr n).2 (Nat.le_refl _)) (fun _=>⟨rfl,hfr⟩) (fun h=>by cases h) (jV ht') fun v c' r f' n' hK hk' hs' hr' hn' _ hnew=>?_
   exact ih (i+1) _ f' n' _ c' hK (fun o ho=>hdst o (by simp [ho])) hk' (hnew rfl) (fh (fun k=>(ht' k).keep hs' hk.shut) hds hr') (by rw [cO]; exact hN) (by rw [bK]; exact hd.keep hs') (hs.trans hs') h0 (by omega)
  simp only [du] at h
  split at h
  ·rename_i hg
   exact vg (by simp [Region.wanted,hg]) (step t ht h)
  ·rename_i j want hg
   split at h
   ·rename_i d hgs
    split at h
    ·rename_i b htd
     have hy:=iG ht hgs htd
     obtain ⟨h1,h2⟩:=h
     by_cases hb:b=want
     ·have hu:=ij t d (v := .bool want) (by rw [htd,hb])
      rw [hu] at h1
      exact vg (by simp [Region.wanted,hg,hy,hb]) (step t ht (h1 hb))
     ·have hb':b = !want:=by cases b<;>cases want<;>simp_all
      have hu:=ij t d (v := .bool (!want)) (by rw [htd,hb'])
      rw [hu] at h2
      exact vf (by simp [Region.wanted,hg,hy,hb]) (ih (i+1) _ f n _ c (h2 hb') (fun o ho=>hdst o (by simp [ho])) hk hfr (fh ht hds (e_ c)) (by rw [cO]; exact hN) (by rw [bK]; exact hd) hs h0 hne)
    ·rename_i htd
     have hy:=gm ht hgs htd
     exact vf (by simp [Region.wanted,hg,hy]) (ih (i+1) _ f n _ c h (fun o ho=>hdst o (by simp [ho])) hk hfr (fh ht hds (e_ c)) (by rw [cO]; exact hN) (by rw [bK]; exact hd) hs h0 hne)
    ·exact h.elim
   ·exact h.elim
theorem AU {P:Program} {ρ ρ':Operand→AV} {op:Op} (h:∀x∈op.operands,ρ x=ρ' x):iL P ρ op=iL P ρ' op:=by
 have fc:∀(place:Nat→Option (Nat×Nat)) (l:List (Nat×Operand)) (cs:List AV),(∀p∈l,ρ p.2=ρ' p.2)→gM place ρ l cs=gM place ρ' l cs:=by
  intro place l
  induction l with
  | nil=>intro cs _; rfl
  | cons p l ih =>
   obtain ⟨i,x⟩:=p
   intro cs hp
   simp only [gM,hp (i,x) (by simp)]
   cases place i with
   | none=>rfl
   | some q =>
    obtain ⟨off,size⟩:=q
    simp only
    rw [ih _ fun p hp'=>hp p (by simp [hp'])]
 have oc:∀o:Option Operand,(∀x∈o,ρ x=ρ' x)→fS ρ o=fS ρ' o:=by
  intro o ho
  cases o with
  | none=>rfl
  | some x=>simp only [fS,ho x rfl]
 have mc:∀xs:Array Operand,(∀x∈xs,ρ x=ρ' x)→xs.toList.map ρ=xs.toList.map ρ':=fun xs hx=>List.map_congr_left fun x hx'=>hx x (by simpa using hx')
 cases op<;>simp only [Op.operands] at h<;>simp only [iL]<;>try rfl
 case build t ps =>
  have hp:∀p∈ps.toList,ρ p.2=ρ' p.2:=fun p hp=>h p.2 (by
   simp only [List.mem_toArray,List.mem_map]
   exact ⟨p,hp,rfl⟩)
  simp only [fc _ ps.toList _ hp]
 case makeFunc fn a b=>rw [mc a fun x hx=>h x (by simp [hx]),mc b fun x hx=>h x (by simp [hx])]
 case slice t x lo hi mx =>
  rw [oc lo fun y hy=>h y (by cases hy; simp),oc hi fun y hy=>h y (by cases hy; simp),oc mx fun y hy=>h y (by cases hy; simp),h x (by simp)]
 case call c =>
  obtain ⟨callee,args,ats⟩:=c
  simp only [Call.operands] at h
  have ha:∀x∈args.toList,ρ x=ρ' x:=fun x hx=>h x (by simp; exact .inr (by simpa using hx))
  cases callee<;>try rfl
  rename_i b
  cases b<;>try rfl
  all_goals
   simp only
   revert ha
   generalize args.toList=l
   generalize ats.toList=m
   intro ha
   rcases l with _|⟨x,_|⟨y,_|⟨z,l⟩⟩⟩<;>rcases m with _|⟨t,_|⟨t2,m⟩⟩<;>first
    | rfl
    | (simp only [ha x (by simp),ha y (by simp)]; done)
    | (simp only [ha x (by simp)]; done)
 case move x=>simp only [h x (by simp)]
 case assign x=>simp only [h x (by simp)]
 case pick x y z=>simp only [h x (by simp),h y (by simp),h z (by simp)]
 case unOp o t x=>simp only [h x (by simp)]
 case binOp o t x y t'=>simp only [h x (by simp),h y (by simp)]
 case fieldAddr t x j=>simp only [h x (by simp)]
 case field t x j=>simp only [h x (by simp)]
 case indexAddr t x y=>simp only [h x (by simp),h y (by simp)]
 case index t x y=>simp only [h x (by simp),h y (by simp)]
 case extract x j=>simp only [h x (by simp)]
 case nilCheck x=>simp only [h x (by simp)]
theorem AD {P:Program} {f:Nat→BS} {ρ ρ':Operand→AV} {op:Op} (h:∀x∈op.operands,ρ x=ρ' x):aS P f ρ op=aS P f ρ' op:=by
 cases op<;>simp only [Op.operands] at h<;>simp only [aS]
 case load t a=>simp only [h a (by simp)]
 case convert t t' x=>simp only [h x (by simp)]
 case lookup t m k ok=>simp only [h m (by simp),h k (by simp)]
theorem zV {P:Program} {id:Nat} {ρ ρ':Operand→AV} {op:Op} (h:∀x∈op.operands,ρ x=ρ' x):pH P id ρ op=pH P id ρ' op:=by
 cases op<;>simp only [Op.operands] at h<;>simp only [pH]
 case box t x=>simp only [h x (by simp)]
 case makeSlice t l c=>simp only [h l (by simp),h c (by simp)]
 case buildSlice t len ps =>
  have hp:∀p∈ps.toList,ρ p.2=ρ' p.2:=fun p hp=>h p.2 (by
   simp only [List.mem_toArray,List.mem_map]
   exact ⟨p,hp,rfl⟩)
  have h1:(ps.toList.map fun p=>ρ p.2)=ps.toList.map fun p=>ρ' p.2:=List.map_congr_left hp
  have h2:∀n,(ps.toList.all fun p=>(ρ p.2).shaped n)=ps.toList.all fun p=>(ρ' p.2).shaped n:=fun n=>by
   rw [Bool.eq_iff_iff,List.all_eq_true,List.all_eq_true]
   exact ⟨fun g p hp'=>by rw [←hp p hp']; exact g p hp',fun g p hp'=>by rw [hp p hp']; exact g p hp'⟩
  simp only [h1,h2]
theorem Ak {P:Program} {id:Nat} {f:Nat→BS} {ρ ρ':Operand→AV} {K:AV→(Nat→BS)→Prop} {op:Op} (h:∀x∈op.operands,ρ x=ρ' x):i9 P id f ρ K op=i9 P id f ρ' K op:=by
 cases op<;>simp only [Op.operands] at h<;>simp only [i9]
 case store t x v=>simp only [h x (by simp),h v (by simp)]
 case insert t m k v=>simp only [h m (by simp),h k (by simp),h v (by simp)]
 case range t x=>simp only [h x (by simp)]
 case next it b=>simp only [h it (by simp)]
 case call c =>
  obtain ⟨callee,args,ats⟩:=c
  simp only [Call.operands] at h
  have ha:∀x∈args.toList,ρ x=ρ' x:=fun x hx=>h x (by simp; exact .inr (by simpa using hx))
  cases callee<;>try rfl
  rename_i b
  cases b<;>try rfl
  revert ha
  generalize args.toList=l
  generalize ats.toList=m
  intro ha
  rcases l with _|⟨x,_|⟨y,_|⟨z,l⟩⟩⟩<;>rcases m with _|⟨t,_|⟨t2,_|⟨t3,m⟩⟩⟩<;>first
   | rfl
   | (simp only [ha x (by simp),ha y (by simp)]; done)
theorem rB {ρ ρ':Operand→AV} {c:Call} (h:∀x∈c.operands,ρ x=ρ' x):d_ ρ c=d_ ρ' c:=by
 obtain ⟨callee,args,ats⟩:=c
 simp only [Call.operands] at h
 have ha:∀x∈args.toList,ρ x=ρ' x:=fun x hx=>h x (by simp; exact .inr (by simpa using hx))
 cases callee<;>try rfl
 rename_i x
 simp only [d_,h x (by simp),List.map_congr_left ha]
theorem Gl {P:Program} {z q bq bq':Bool} {hd:Nat→Bool} {id n:Nat} {op:Op} {ρ:Operand→AV} {f:Nat→BS} {K:AV→(Nat→BS)→Nat→Prop} (hc:aH op ≠ .c):fY P z q bq hd id n op ρ f K=fY P z q bq' hd id n op ρ f K:=by
 unfold fY
 cases h:aH op<;>first|rfl|exact absurd h hc
def lE (P:Program) (z:Bool) (hd:Nat→Bool) (id:Nat) (op:Op) (ρ:Operand→AV) (f:Nat→BS) (v:AV) (e:Option BS):Prop :=
 match aH op with
 | .v=>(∃s,iL P ρ op=some (s,v)∧s)∧e=none
 | .r=>(∃s,aS P (fz hd f) ρ op=some (s,v)∧s)∧e=none
 | .g=>∃s b,pH P id ρ op=some (s,v,b)∧s∧e=some b
 | .c=>(∃c g args,op = .call c∧d_ ρ c=some (g,args)∧CV P g args f v)∧e=none
 | .l=>False
 | .n=>False
def pJ (f:Nat→BS) (id:Nat):Option BS→Nat→BS
 | some b=>ar f id b
 | none=>f
theorem rq {P:Program} {z:Bool} {hd:Nat→Bool} {id n:Nat} {op:Op} {ρ:Operand→AV} {f:Nat→BS} {K:AV→(Nat→BS)→Nat→Prop} (hc:aH op ≠ .l):fY P z true false hd id n op ρ f K↔∃v e,lE P z hd id op ρ f v e∧K v (pJ f id e) n:=by
 unfold fY lE
 cases h:aH op with
 | v =>
  simp only
  cases hv:iL P ρ op with
  | none=>simp
  | some q =>
   obtain ⟨s,v⟩:=q
   constructor
   ·intro ⟨h1,h2⟩; exact ⟨v,none,⟨⟨s,rfl,h1⟩,rfl⟩,h2⟩
   ·rintro ⟨v',e,⟨⟨s',h1,h2⟩,rfl⟩,h3⟩
    simp only [Option.some.injEq,Prod.mk.injEq] at h1
    obtain ⟨rfl,rfl⟩:=h1
    exact ⟨h2,h3⟩
 | r =>
  simp only
  cases hv:aS P (fz hd f) ρ op with
  | none=>simp
  | some q =>
   obtain ⟨s,v⟩:=q
   constructor
   ·intro ⟨h1,h2⟩; exact ⟨v,none,⟨⟨s,rfl,h1⟩,rfl⟩,h2⟩
   ·rintro ⟨v',e,⟨⟨s',h1,h2⟩,rfl⟩,h3⟩
    simp only [Option.some.injEq,Prod.mk.injEq] at h1
    obtain ⟨rfl,rfl⟩:=h1
    exact ⟨h2,h3⟩
 | g =>
  simp only
  cases hv:pH P id ρ op with
  | none=>simp
  | some q =>
   obtain ⟨s,v,b⟩:=q
   constructor
   ·intro ⟨h1,h2⟩; exact ⟨v,some b,⟨s,b,rfl,h1,rfl⟩,h2⟩
   ·rintro ⟨v',e,⟨s',b',h1,h2,rfl⟩,h3⟩
    simp only [Option.some.injEq,Prod.mk.injEq] at h1
    obtain ⟨rfl,rfl,rfl⟩:=h1
    exact ⟨h2,h3⟩
 | l=>exact absurd h hc
 | n =>
  simp only [if_true,false_iff]
  rintro ⟨v',e,h,_⟩; exact h
 | c =>
  simp only
  obtain ⟨c,rfl⟩:=JR h
  simp only
  cases hv:d_ ρ c with
  | none =>
   simp only [if_true,false_iff]
   rintro ⟨v',e,⟨⟨c',g,args,h1,h2,_⟩,_⟩,_⟩
   simp only [Op.call.injEq] at h1
   subst h1; rw [hv] at h2; cases h2
  | some q =>
   obtain ⟨g,args⟩:=q
   constructor
   ·rintro (⟨r,h1,h5⟩|⟨h1,_⟩)
    ·exact ⟨r,none,⟨⟨c,g,args,rfl,hv,h1⟩,rfl⟩,h5⟩
    ·cases h1
   ·rintro ⟨v',e,⟨⟨c',g',args',h1,h2,h3⟩,rfl⟩,h7⟩
    simp only [Op.call.injEq] at h1
    subst h1; rw [hv] at h2
    simp only [Option.some.injEq,Prod.mk.injEq] at h2
    obtain ⟨rfl,rfl⟩:=h2
    exact .inl ⟨v',h3,h7⟩
theorem lE.congr {P:Program} {z:Bool} {hd:Nat→Bool} {id:Nat} {op:Op} {ρ ρ':Operand→AV} {f:Nat→BS} {v:AV} {e:Option BS} (h:∀x∈op.operands,ρ x=ρ' x) (he:lE P z hd id op ρ f v e):lE P z hd id op ρ' f v e:=by
 unfold lE at *
 split at he
 ·rw [←AU h]; exact he
 ·rw [←AD h]; exact he
 ·rw [←zV h]; exact he
 ·obtain ⟨⟨c,g,args,rfl,h2,h3⟩,h4⟩:=he
  exact ⟨⟨c,g,args,rfl,by rw [←rB (by simpa [Op.operands] using h)]; exact h2,h3⟩,h4⟩
 ·exact he
 ·exact he
theorem lE.grow {P:Program} {z:Bool} {hd:Nat→Bool} {id:Nat} {op:Op} {ρ:Operand→AV} {f:Nat→BS} {v:AV} {e:Option BS} (he:lE P z hd id op ρ f v e) {j:Nat} (hj:f j = .fresh) {b:BS} (hb:b ≠ .fresh):lE P z hd id op ρ (ar f j b) v e:=by
 unfold lE at *
 split at he
 ·exact he
 ·obtain ⟨⟨s,h1,h2⟩,h3⟩:=he
  refine ⟨⟨s,uM (fun m=>?_) h1,h2⟩,h3⟩
  unfold fz
  by_cases hm:m=j
  ·subst hm
   cases hd m
   ·exact .inr (.inr hj)
   ·exact .inr (.inl rfl)
  ·rw [ac _ _ _ hm]; exact .inl rfl
 ·exact he
 ·obtain ⟨⟨c,g,args,rfl,h2,h3⟩,h7⟩:=he
  exact ⟨⟨c,g,args,rfl,h2,h3.grow hj⟩,h7⟩
 ·exact he
 ·exact he
theorem lE.indep {P:Program} {z:Bool} {hd:Nat→Bool} {id:Nat} {op:Op} {ρ:Operand→AV} {f f':Nat→BS} {v:AV} {e:Option BS} (hc:aH op = .v∨aH op = .g∨(aH op = .r∧∀m,hd m=false→f' m=f m)) (he:lE P z hd id op ρ f v e):lE P z hd id op ρ f' v e:=by
 unfold lE at *
 rcases hc with h|h|⟨h,hk⟩
 ·rw [h] at he ⊢; exact he
 ·rw [h] at he ⊢; exact he
 ·have hz:fz hd f'=fz hd f:=by
   funext m
   unfold fz
   cases hm:hd m
   ·simp only [cond_false]; exact hk m hm
   ·rfl
  rw [h] at he ⊢
  simp only at he ⊢
  rw [hz]; exact he
theorem lE.hid {P:Program} {z:Bool} {hd:Nat→Bool} {id:Nat} {op:Op} {ρ:Operand→AV} {f:Nat→BS} {v:AV} {e:Option BS} (hc:aH op = .r) {j:Nat} (hj:hd j=true) {b:BS} (he:lE P z hd id op ρ (ar f j b) v e):lE P z hd id op ρ f v e:=by
 have hz:fz hd (ar f j b)=fz hd f:=by
  funext m
  unfold fz
  by_cases hm:m=j
  ·subst hm; rw [hj]; simp
  ·rw [ac _ _ _ hm]
 unfold lE at *
 rw [hc] at he ⊢
 simp only at he ⊢
 rw [hz] at he; exact he
theorem lE.made {P:Program} {z:Bool} {hd:Nat→Bool} {id:Nat} {op:Op} {ρ:Operand→AV} {f:Nat→BS} {v:AV} {b:BS} (he:lE P z hd id op ρ f v (some b)):aH op = .g∧b ≠ .fresh:=by
 unfold lE at he
 split at he
 ·cases he.2
 ·cases he.2
 ·rename_i h
  refine ⟨h,?_⟩
  obtain ⟨s,b',h1,h2,h3⟩:=he
  injection h3 with h3; subst h3
  exact yc h1
 ·cases he.2
 ·exact he.elim
 ·exact he.elim
def iH (P : Program) (z : Bool) (ops : Array Oper) (n0 n i : Nat) (K : (Nat → AV) → (Nat → BS) → Prop) (t : Nat → AV) (f : Nat → BS) : Prop :=
  match ops[i]? with
  | none => False
  | some o =>
    match o.guard with
    | none => fY P z true (dv ops i) (fe z true ops n0 i) (n0 + i) n o.op (a_ t) f fun v f' _ => K (aG t o.dst v) f'
    | some (j, want) =>
      match er ops j with
      | some d => match t d with
        | .bool b => (b = want → fY P z true (dv ops i) (fe z true ops n0 i) (n0 + i) n o.op (a_ t) f fun v f' _ => K (aG t o.dst v) f') ∧ (b = !want → K (aG t o.dst (.tup [])) f)
        | .tup [] => K (aG t o.dst (.tup [])) f
        | _ => False
      | none => False
def ff (P:Program) (z:Bool) (ops:Array Oper) (n0 i:Nat) (o:Oper) (t:Nat→AV) (f:Nat→BS) (v:AV) (e:Option BS):Prop :=
 match o.guard with
 | none=>lE P z (fe z true ops n0 i) (n0+i) o.op (a_ t) f v e
 | some (j,want)=>∃d,er ops j=some d∧((t d = .bool want∧lE P z (fe z true ops n0 i) (n0+i) o.op (a_ t) f v e)∨((t d = .bool (!want)∨t d = .tup [])∧v = .tup []∧e=none))
theorem io {P:Program} {z:Bool} {ops:Array Oper} {n0 n i:Nat} {K:(Nat→AV)→(Nat→BS)→Prop} {t:Nat→AV} {f:Nat→BS} {o:Oper} (ho:ops[i]?=some o) (hc:aH o.op ≠ .l) (hb:dv ops i=false∨aH o.op ≠ .c) :
 iH P z ops n0 n i K t f↔∃v e,ff P z ops n0 i o t f v e∧K (aG t o.dst v) (pJ f (n0+i) e):=by
 unfold iH ff
 simp only [ho]
 have ebq:∀id ρ f (J:AV→(Nat→BS)→Nat→Prop),fY P z true (dv ops i) (fe z true ops n0 i) id n o.op ρ f J=fY P z true false (fe z true ops n0 i) id n o.op ρ f J:=fun id ρ f J=>by
  rcases hb with hb|hb
  ·rw [hb]
  ·exact Gl hb
 simp only [ebq]
 cases hg:o.guard with
 | none=>simp only; exact rq hc
 | some q =>
  obtain ⟨j,want⟩:=q
  simp only
  cases hgs:er ops j with
  | none=>simp
  | some d =>
   simp only
   cases ht:t d with
   | bool b =>
    simp only
    constructor
    ·intro ⟨h1,h2⟩
     by_cases hb:b=want
     ·obtain ⟨v,e,g1,g2⟩:=(rq hc).1 (h1 hb)
      exact ⟨v,e,⟨d,rfl,.inl ⟨by rw [ht,hb],g1⟩⟩,g2⟩
     ·have hb':b = !want:=by cases b<;>cases want<;>simp_all
      exact ⟨.tup [],none,⟨d,rfl,.inr ⟨.inl (by rw [ht,hb']),rfl,rfl⟩⟩,h2 hb'⟩
    ·rintro ⟨v,e,⟨d',h1,h3⟩,h4⟩
     simp only [Option.some.injEq] at h1; subst h1
     rw [ht] at h3
     rcases h3 with ⟨g1,g2⟩|⟨g1,rfl,rfl⟩
     ·injection g1 with g1
      exact ⟨fun _=>(rq hc).2 ⟨v,e,g2,h4⟩,fun hb=>by subst g1; cases b<;>simp at hb⟩
     ·rcases g1 with g1|g1
      ·injection g1 with g1
       exact ⟨fun hb=>by subst hb; cases b<;>simp at g1,fun _=>h4⟩
      ·cases g1
   | tup cs =>
    cases cs with
    | nil =>
     simp only
     constructor
     ·intro h; exact ⟨.tup [],none,⟨d,rfl,.inr ⟨.inr ht,rfl,rfl⟩⟩,h⟩
     ·rintro ⟨v,e,⟨d',h1,h3⟩,h4⟩
      simp only [Option.some.injEq] at h1; subst h1
      rw [ht] at h3
      rcases h3 with ⟨g1,g2⟩|⟨g1,rfl,rfl⟩
      ·cases g1
      ·exact h4
    | cons c cs =>
     simp only [false_iff]
     rintro ⟨v,e,⟨d',h1,h2⟩,_⟩
     simp only [Option.some.injEq] at h1; subst h1
     rw [ht] at h2; simp at h2
   | _ =>
    simp only [false_iff]
    rintro ⟨v,e,⟨d',h1,h2⟩,_⟩
    simp only [Option.some.injEq] at h1; subst h1
    rw [ht] at h2; simp at h2
theorem xE {o:Oper} {ops:Array Oper} {t:Nat→AV} {dst:Option Tmp} {u:AV} (h:∀d,dst=some d→d ∉ o.looksAt ops):∀x∈o.op.operands,a_ (aG t dst u) x=a_ t x:=by
 intro x hx
 cases dst with
 | none=>rfl
 | some d =>
  cases x with
  | tmp m =>
   simp only [a_,aG]
   refine ac _ _ _ fun hm=>?_
   subst hm
   exact h m rfl (List.mem_append_left _ (List.mem_filterMap.2 ⟨.tmp m,by simpa using hx,rfl⟩))
  | _=>rfl
theorem pm {o:Oper} {ops:Array Oper} {t:Nat→AV} {dst:Option Tmp} {u:AV} (h:∀d,dst=some d→d ∉ o.looksAt ops) {j:Nat} {want:Bool} (hg:o.guard=some (j,want)) {d:Nat} (hd:er ops j=some d):aG t dst u d=t d:=by
 cases dst with
 | none=>rfl
 | some m =>
  simp only [aG]
  refine ac _ _ _ fun hm=>?_
  subst hm
  refine h d rfl ?_
  unfold er at hd
  simp [Oper.looksAt,hg,hd]
theorem ff.put {P:Program} {z:Bool} {ops:Array Oper} {n0 i:Nat} {o:Oper} {t:Nat→AV} {f:Nat→BS} {v:AV} {e:Option BS} {dst:Option Tmp} {u:AV} (h:∀d,dst=some d→d ∉ o.looksAt ops):ff P z ops n0 i o (aG t dst u) f v e↔ff P z ops n0 i o t f v e:=by
 have ha:=xE (o:=o) (ops:=ops) (t:=t) (u:=u) h
 have hE:lE P z (fe z true ops n0 i) (n0+i) o.op (a_ (aG t dst u)) f v e↔lE P z (fe z true ops n0 i) (n0+i) o.op (a_ t) f v e:=⟨lE.congr ha,lE.congr fun x hx=>(ha x hx).symm⟩
 unfold ff
 cases hg:o.guard with
 | none=>exact hE
 | some q =>
  obtain ⟨j,want⟩:=q
  simp only
  constructor
  ·rintro ⟨d,h1,h3⟩; rw [pm (t:=t) (u:=u) h hg h1] at h3; exact ⟨d,h1,h3.imp (fun ⟨x,y⟩=>⟨x,hE.1 y⟩) id⟩
  ·rintro ⟨d,h1,h3⟩; refine ⟨d,h1,?_⟩; rw [pm (t:=t) (u:=u) h hg h1]; exact h3.imp (fun ⟨x,y⟩=>⟨x,hE.2 y⟩) id
theorem ff.grow {P:Program} {z:Bool} {ops:Array Oper} {n0 i:Nat} {o:Oper} {t:Nat→AV} {f:Nat→BS} {v:AV} {e:Option BS} (he:ff P z ops n0 i o t f v e) {j:Nat} (hj:f j = .fresh) {b:BS} (hb:b ≠ .fresh):ff P z ops n0 i o t (ar f j b) v e:=by
 unfold ff at *
 split at he
 ·exact he.grow hj hb
 ·obtain ⟨d,h1,h3⟩:=he
  exact ⟨d,h1,h3.imp (fun ⟨x,y⟩=>⟨x,y.grow hj hb⟩) id⟩
theorem ff.indep {P:Program} {z:Bool} {ops:Array Oper} {n0 i:Nat} {o:Oper} {t:Nat→AV} {f f':Nat→BS} {v:AV} {e:Option BS} (hc:aH o.op = .v∨aH o.op = .g∨(aH o.op = .r∧∀m,fe z true ops n0 i m=false→f' m=f m)) (he:ff P z ops n0 i o t f v e):ff P z ops n0 i o t f' v e:=by
 unfold ff at *
 split at he
 ·exact he.indep hc
 ·obtain ⟨d,h1,h3⟩:=he
  exact ⟨d,h1,h3.imp (fun ⟨x,y⟩=>⟨x,y.indep hc⟩) id⟩
theorem ff.hid {P:Program} {z:Bool} {ops:Array Oper} {n0 i:Nat} {o:Oper} {t:Nat→AV} {f:Nat→BS} {v:AV} {e:Option BS} (hc:aH o.op = .r) {j:Nat} (hj:fe z true ops n0 i j=true) {b:BS} (he:ff P z ops n0 i o t (ar f j b) v e):ff P z ops n0 i o t f v e:=by
 unfold ff at *
 split at he
 ·exact he.hid hc hj
 ·obtain ⟨d,h1,h3⟩:=he
  exact ⟨d,h1,h3.imp (fun ⟨x,y⟩=>⟨x,y.hid hc hj⟩) id⟩
theorem ff.made {P:Program} {z:Bool} {ops:Array Oper} {n0 i:Nat} {o:Oper} {t:Nat→AV} {f:Nat→BS} {v:AV} {b:BS} (he:ff P z ops n0 i o t f v (some b)):aH o.op = .g∧b ≠ .fresh:=by
 unfold ff at he
 split at he
 ·exact he.made
 ·obtain ⟨d,h1,h3⟩:=he
  rcases h3 with ⟨_,h3⟩|⟨_,_,h3⟩
  ·exact h3.made
  ·cases h3
theorem qP (t:Nat→AV) {x y:Option Tmp} (v u:AV) (h:∀d,x=some d→y≠some d):aG (aG t x v) y u=aG (aG t y u) x v:=by
 cases x with
 | none=>rfl
 | some d =>
  cases y with
  | none=>rfl
  | some e=>exact ig t v u fun he=>h d rfl (he▸rfl)
def nS (z:Bool):Cls→Cls→Bool
 | .v,_=>true
 | .r,.l=>z
 | .c,.l=>false
 | .r,_=>true
 | .c,_=>true
 | .g,.v=>true
 | .g,.g=>true
 | .g,.r=>true
 | _,_=>false
theorem Bc {P:Program} {z:Bool} {ops:Array Oper} {n0 n i j:Nat} {K:(Nat→AV)→(Nat→BS)→Prop} {t:Nat→AV} {f:Nat→BS} {oi oj:Oper} (hi:ops[i]?=some oi) (hj:ops[j]?=some oj) (hne:i≠j) (hap:oi.apart ops oj=true) (hcp:nS z (aH oi.op) (aH oj.op)=true) (hid:aH oi.op = .g→Ew ops j i=true)
 (bi:dv ops i=false) (bj:dv ops j=false) (fi:f (n0+i) = .fresh) (fj:f (n0+j) = .fresh) (h:iH P z ops n0 n i (fun t f=>iH P z ops n0 n j K t f) t f):iH P z ops n0 n j (fun t f=>iH P z ops n0 n i K t f) t f:=by
 obtain ⟨a1,a2,a3⟩:=Oper.apart_spec hap
 have hli:aH oi.op ≠ .l:=by intro he; rw [he] at hcp; cases hh:aH oj.op<;>rw [hh] at hcp<;>simp [nS] at hcp
 rw [io hi hli (.inl bi)] at h
 obtain ⟨vi,ei,h1,h2⟩:=h
 by_cases hlj:aH oj.op = .l
 ·
  have hv:aH oi.op = .v∨(aH oi.op = .r∧z=true):=by rw [hlj] at hcp; cases hh:aH oi.op<;>rw [hh] at hcp<;>simp [nS] at hcp<;>simp [hcp]
  have hei:ei=none:=by
   cases ei with
   | none=>rfl
   | some b=>have:=h1.made.1; rcases hv with hv|⟨hv,_⟩<;>rw [hv] at this<;>cases this
  subst hei
  simp only [pJ] at h2
  have hkz:∀f':Nat→BS,((z && true)=true→∀m,fe z true ops n0 j m=false→f' m=f m)→aH oi.op = .v∨aH oi.op = .g∨(aH oi.op = .r∧∀m,fe z true ops n0 i m=false→f' m=f m):=by
   intro f' hk
   rcases hv with h|⟨h,hz⟩
   ·exact .inl h
   ·refine .inr (.inr ⟨h,fun m hm=>?_⟩)
    subst hz
    exact hk rfl m (by unfold fe at hm ⊢; simpa using hm)
  have back:∀(u:AV) (f':Nat→BS),((z && true)=true→∀m,fe z true ops n0 j m=false→f' m=f m)→K (aG (aG t oi.dst vi) oj.dst u) f'→iH P z ops n0 n i K (aG t oj.dst u) f':=by
   intro u f' hkp hK
   rw [io hi hli (.inl bi)]
   refine ⟨vi,none,(ff.put a3).2 (h1.indep (hkz f' hkp)),?_⟩
   simp only [pJ]
   rwa [qP t u vi (fun d hd=>fun hx=>a2 d hx hd)]
  unfold iH at h2 ⊢
  simp only [hj] at h2 ⊢
  have ha:=xE (o:=oj) (ops:=ops) (t:=t) (u:=vi) a1
  have hop:∀K':AV→(Nat→BS)→Nat→Prop,fY P z true (dv ops j) (fe z true ops n0 j) (n0+j) n oj.op (a_ (aG t oi.dst vi)) f K'→fY P z true (dv ops j) (fe z true ops n0 j) (n0+j) n oj.op (a_ t) f K':=by
   intro K' hK'
   unfold fY at hK' ⊢
   simp only [hlj] at hK' ⊢
   rwa [Ak ha] at hK'
  have hmono:∀K' K'':AV→(Nat→BS)→Nat→Prop,(∀v f',((z && true)=true→∀m,fe z true ops n0 j m=false→f' m=f m)→K' v f' n→K'' v f' n)→fY P z true (dv ops j) (fe z true ops n0 j) (n0+j) n oj.op (a_ t) f K'→fY P z true (dv ops j) (fe z true ops n0 j) (n0+j) n oj.op (a_ t) f K'':=by
   intro K' K'' hk hK'
   unfold fY at hK' ⊢
   simp only [hlj,kX,cond_true,Bool.cond_self] at hK' ⊢
   obtain ⟨v,f',g1,g2,_⟩:=ju hK'
   exact g1 _ ⟨g2.1,hk v f' g2.1 g2.2⟩
  cases hg:oj.guard with
  | none =>
   simp only [hg] at h2 ⊢
   exact hmono _ _ (fun v f' hkp hK=>back v f' hkp hK) (hop _ h2)
  | some q =>
   obtain ⟨jj,want⟩:=q
   simp only [hg] at h2 ⊢
   cases hgs:er ops jj with
   | none=>simp only [hgs] at h2
   | some d =>
    simp only [hgs] at h2 ⊢
    rw [pm a1 hg hgs] at h2
    cases htd:t d with
    | bool b =>
     simp only [htd] at h2 ⊢
     exact ⟨fun hb=>hmono _ _ (fun v f' hkp hK=>back v f' hkp hK) (hop _ (h2.1 hb)),fun hb=>back _ _ (fun _ _ _=>rfl) (h2.2 hb)⟩
    | tup cs =>
     cases cs with
     | nil=>simp only [htd] at h2 ⊢; exact back _ _ (fun _ _ _=>rfl) h2
     | cons c cs=>simp only [htd] at h2
    | _=>simp only [htd] at h2
 ·rw [io hj hlj (.inl bj)] at h2
  obtain ⟨vj,ej,h3,h4⟩:=h2
  have h3':ff P z ops n0 j oj t f vj ej:=by
   have h5:=(ff.put a1).1 h3
   cases ei with
   | none=>exact h5
   | some b =>
    have hg:=h1.made.1
    have hhid:=hid hg
    rw [hg] at hcp
    by_cases hr:aH oj.op = .r
    ·exact h5.hid hr (by unfold fe; simp [hhid])
    ·refine h5.indep ?_
     cases hh:aH oj.op<;>rw [hh] at hcp<;>simp [nS] at hcp<;>first|(simp; done)|exact absurd hh hr
  rw [io hj hlj (.inl bj)]
  refine ⟨vj,ej,h3',?_⟩
  rw [io hi hli (.inl bi)]
  refine ⟨vi,ei,(ff.put a3).2 ?_,?_⟩
  ·cases ej with
   | none=>exact h1
   | some b=>exact h1.grow fj h3'.made.2
  ·rw [qP t vj vi (fun d hd=>fun hx=>a2 d hx hd)]
   have:pJ (pJ f (n0+j) ej) (n0+i) ei=pJ (pJ f (n0+i) ei) (n0+j) ej:=by
    cases ei<;>cases ej<;>simp only [pJ]
    exact ig f _ _ (by omega)
   rw [this]
   exact h4
theorem nN {P:Program} {z:Bool} {ops:Array Oper} {n0 n i:Nat} {K K':(Nat→AV)→(Nat→BS)→Prop} {t:Nat→AV} {f:Nat→BS} (hK:∀t' f',(∀m,m≠n0+i→f m = .fresh→f' m = .fresh)→K t' f'→K' t' f') (h:iH P z ops n0 n i K t f):iH P z ops n0 n i K' t f:=by
 cases ho:ops[i]? with
 | none=>simp [iH,ho] at h
 | some o =>
  by_cases hl:aH o.op = .l∨(aH o.op = .c∧dv ops i=true)
  ·have hm:∀J J':AV→(Nat→BS)→Nat→Prop,(∀v f',(∀m,m≠n0+i→f m = .fresh→f' m = .fresh)→J v f' n→J' v f' n)→fY P z true (dv ops i) (fe z true ops n0 i) (n0+i) n o.op (a_ t) f J→fY P z true (dv ops i) (fe z true ops n0 i) (n0+i) n o.op (a_ t) f J':=by
    intro J J' hj hJ
    unfold fY at hJ ⊢
    rcases hl with hl|⟨hl,_⟩
    ·simp only [hl,kX,cond_true,Bool.cond_self] at hJ ⊢
     obtain ⟨v,f',g1,g2,g3,_⟩:=ju hJ
     exact g1 _ ⟨g2.1,hj v f' g3 g2.2⟩
    ·simp only [hl,if_true] at hJ ⊢
     split at hJ
     ·split at hJ
      ·rcases hJ with ⟨r,h1,h2⟩|⟨h1,h2⟩
       ·exact .inl ⟨r,h1,hj _ _ (fun _ _ h=>h) h2⟩
       ·exact .inr ⟨h1,h2.mono fun r f' hf hr=>hj _ _ (fun m _ h=>(hf m).2 h) hr⟩
      ·exact hJ
     ·exact hJ
   unfold iH at h ⊢
   simp only [ho] at h ⊢
   cases hg:o.guard with
   | none=>simp only [hg] at h ⊢; exact hm _ _ (fun v f' h1 h2=>hK _ _ h1 h2) h
   | some q =>
    obtain ⟨j,want⟩:=q
    simp only [hg] at h ⊢
    split at h
    ·split at h
     ·exact ⟨fun hb=>hm _ _ (fun v f' h1 h2=>hK _ _ h1 h2) (h.1 hb),fun hb=>hK _ _ (fun _ _ h=>h) (h.2 hb)⟩
     ·exact hK _ _ (fun _ _ h=>h) h
     ·exact h.elim
    ·exact h.elim
  ·have hl':aH o.op ≠ .l:=fun h=>hl (.inl h)
   have hb':dv ops i=false∨aH o.op ≠ .c:=by
    cases hb:dv ops i with
    | false=>exact .inl rfl
    | true=>exact .inr fun h=>hl (.inr ⟨h,hb⟩)
   rw [io ho hl' hb'] at h ⊢
   obtain ⟨v,e,h1,h2⟩:=h
   refine ⟨v,e,h1,hK _ _ (fun m hm hfm=>?_) h2⟩
   cases e with
   | none=>exact hfm
   | some b=>simp only [pJ]; rw [ac _ _ _ hm]; exact hfm
theorem Be {P:Program} {z:Bool} {ops:Array Oper} {n0 n i:Nat} {K:(Nat→AV)→(Nat→BS)→Prop} {t:Nat→AV} {f:Nat→BS} (hb:dv ops i=false) (h:iH P z ops n0 n i K t f):∃t' f',K t' f':=by
 cases ho:ops[i]? with
 | none=>simp [iH,ho] at h
 | some o =>
  by_cases hl:aH o.op = .l
  ·have hm:∀J:AV→(Nat→BS)→Nat→Prop,fY P z true (dv ops i) (fe z true ops n0 i) (n0+i) n o.op (a_ t) f J→∃v f',J v f' n:=by
    intro J hJ
    unfold fY at hJ
    simp only [hl,kX,cond_true,Bool.cond_self] at hJ
    obtain ⟨v,f',g1,g2,g3⟩:=ju hJ
    exact ⟨v,f',g2.2⟩
   unfold iH at h
   simp only [ho] at h
   cases hg:o.guard with
   | none=>simp only [hg] at h; obtain ⟨v,f',h⟩:=hm _ h; exact ⟨_,_,h⟩
   | some q =>
    obtain ⟨j,want⟩:=q
    simp only [hg] at h
    split at h
    ·split at h
     ·rename_i b _
      by_cases hb:b=want
      ·obtain ⟨v,f',h⟩:=hm _ (h.1 hb); exact ⟨_,_,h⟩
      ·exact ⟨_,_,h.2 (by cases b<;>cases want<;>simp_all)⟩
     ·exact ⟨_,_,h⟩
     ·exact h.elim
    ·exact h.elim
  ·rw [io ho hl (.inl hb)] at h
   obtain ⟨v,e,h1,h2⟩:=h
   exact ⟨_,_,h2⟩
def dY (P:Program) (z:Bool) (ops:Array Oper) (n0 n:Nat) (K:(Nat→AV)→(Nat→BS)→Prop):Nat→Array Bool→(Nat→AV)→(Nat→BS)→Prop
 | 0,listed,t,f=>Region.ready .any ops listed=[]∧K t f
 | fuel+1,listed,t,f=>(Region.ready .any ops listed=[]→K t f)∧∀i∈Region.ready .any ops listed,iH P z ops n0 n i (fun t' f'=>dY P z ops n0 n K fuel (listed.setIfInBounds i true) t' f') t f
theorem Ft (acc:List Nat) (o:Oper) (i:Nat) (h:(NZ acc o).testBit i=true):∃e∈o.after.toList,Region.binds .any e=true∧(e.on=i∨(acc.getD e.on 0).testBit i=true):=by
 unfold NZ at h
 have key:∀(l:List Edge) (s:Nat),(l.foldl (fun s e=>if Region.binds .any e then s ||| (2 ^ e.on ||| acc.getD e.on 0) else s) s).testBit i=true→s.testBit i=true∨∃e∈l,Region.binds .any e=true∧(e.on=i∨(acc.getD e.on 0).testBit i=true):=by
  intro l
  induction l with
  | nil=>intro s h; exact .inl h
  | cons e l ih =>
   intro s h
   simp only [List.foldl_cons] at h
   rcases ih _ h with h1|⟨e',h1,h2⟩
   ·split at h1
    ·rename_i hb
     simp only [Nat.testBit_or,Bool.or_eq_true,Nat.testBit_two_pow,decide_eq_true_eq] at h1
     rcases h1 with h1|h1|h1
     ·exact .inl h1
     ·exact .inr ⟨e,by simp,hb,.inl h1⟩
     ·exact .inr ⟨e,by simp,hb,.inr h1⟩
    ·exact .inl h1
   ·exact .inr ⟨e',by simp [h1],h2⟩
 rcases key _ 0 h with h1|h1
 ·simp at h1
 ·exact h1
def Fy (ops:Array Oper) (acc:List Nat):Prop:=∀(j m:Nat),acc[j]?=some m→∀i,m.testBit i=true→∃o,ops[j]?=some o∧∃e∈o.after.toList,Region.binds .any e=true∧(e.on=i∨(e.on<j∧(acc.getD e.on 0).testBit i=true))
theorem Bg (ops:Array Oper):∀(l:List Oper) (acc:List Nat),(∀j,l[j]?=ops[acc.length+j]?)→Fy ops acc→Fy ops (vp acc l)
 | [],acc,_,h=>h
 | o::l,acc,hl,h=>by
  refine Bg ops l _ (fun j=>?_) fun j m hj i hi=>?_
  ·have:=hl (j+1)
   simpa [Nat.add_assoc,Nat.add_comm 1 j] using this
  ·rcases Nat.lt_trichotomy j acc.length with hlt|heq|hgt
   ·rw [List.getElem?_append_left hlt] at hj
    obtain ⟨o',h1,e,h2,h3,h4⟩:=h j m hj i hi
    refine ⟨o',h1,e,h2,h3,h4.imp id fun ⟨h5,h6⟩=>⟨h5,?_⟩⟩
    rw [List.getD_eq_getElem?_getD] at h6 ⊢
    rwa [List.getElem?_append_left (by omega)]
   ·subst heq
    simp only [List.getElem?_append_right (Nat.le_refl _),Nat.sub_self,List.getElem?_cons_zero,Option.some.injEq] at hj
    subst hj
    have ho:ops[acc.length]?=some o:=by have:=hl 0; simpa using this.symm
    obtain ⟨e,h2,h3,h4⟩:=Ft acc o i hi
    refine ⟨o,ho,e,h2,h3,?_⟩
    rcases h4 with h4|h4
    ·exact .inl h4
    ·have hlt:e.on<acc.length:=by
      rcases Nat.lt_or_ge e.on acc.length with h'|h'
      ·exact h'
      ·rw [List.getD_eq_getElem?_getD,List.getElem?_eq_none h'] at h4; simp at h4
     refine .inr ⟨hlt,?_⟩
     rw [List.getD_eq_getElem?_getD] at h4 ⊢
     rwa [List.getElem?_append_left hlt]
   ·rw [List.getElem?_eq_none (by simp; omega)] at hj; cases hj
def mZ (ops:Array Oper) (listed:Array Bool):Prop:=∀j,listed.getD j false=true→∀o,ops[j]?=some o→∀e∈o.after,Region.binds .any e=true→listed.getD e.on false=true
theorem fw {ops:Array Oper} {listed:Array Bool} (hs:mZ ops listed):∀(j:Nat),(∀o,ops[j]?=some o→∀e∈o.after,Region.binds .any e=true→listed.getD e.on false=true)→∀i,((vp [] ops.toList).getD j 0).testBit i=true→listed.getD i false=true:=by
 have hok:=Bg ops ops.toList [] (by simp) (fun j m h=>by simp at h)
 intro j
 induction j using Nat.strongRecOn with
 | _ j ih =>
  intro hj i hi
  rw [List.getD_eq_getElem?_getD] at hi
  cases hm:(vp [] ops.toList)[j]? with
  | none=>rw [hm] at hi; simp at hi
  | some m =>
   rw [hm] at hi
   simp only [Option.getD_some] at hi
   obtain ⟨o,h1,e,h2,h3,h4⟩:=hok j m hm i hi
   have he:=hj o h1 e (by simpa using h2) h3
   rcases h4 with rfl|⟨h5,h6⟩
   ·exact he
   ·exact ih e.on h5 (fun o' ho'=>hs e.on he o' ho') i h6
def oT (z:Bool) (ops:Array Oper) (bs:List Nat) (i j:Nat) (oi oj:Oper):Bool:=(bs.getD j 0).testBit i || (oi.apart ops oj && nS z (aH oi.op) (aH oj.op))
theorem rv {ops:Array Oper} {listed:Array Bool} (hs:mZ ops listed) {i j:Nat} (hi:i∈Region.ready .any ops listed) (hj:j∈Region.ready .any ops listed) (hij:i≠j):dv ops i=false:=by
 cases hb:dv ops i with
 | false=>rfl
 | true =>
  obtain ⟨hiun,oi,hoi,halli⟩:=mem_ready.1 hi
  obtain ⟨hjun,oj,hoj,hallj⟩:=mem_ready.1 hj
  have key:∀(m k:Nat),m∈Region.ready .any ops listed→k∈Region.ready .any ops listed→((vp [] ops.toList).getD m 0).testBit k=true→False:=by
   intro m k hm hk hbit
   obtain ⟨_,om,hom,hallm⟩:=mem_ready.1 hm
   have hkun:=(mem_ready.1 hk).1
   have:=fw hs m (fun o ho e he hb=>by rw [hom] at ho; injection ho with ho; subst ho; exact hallm e he hb) k hbit
   rcases Nat.lt_or_ge k listed.size with h'|h'
   ·simp [h'] at this hkun; rw [this] at hkun; cases hkun
   ·simp [Array.getElem?_eq_none h'] at this
  unfold dv at hb
  rw [List.all_eq_true] at hb
  have:=hb j (List.mem_range.2 (Array.getElem?_eq_some_iff.1 hoj).1)
  simp only [Bool.or_eq_true,beq_iff_eq] at this
  rcases this with h1|h1|h1
  ·exact absurd h1.symm hij
  ·exact (key i j hi hj h1).elim
  ·exact (key j i hj hi h1).elim
theorem nI {P:Program} {z:Bool} {ops:Array Oper} {n0 n:Nat} {K:(Nat→AV)→(Nat→BS)→Prop} {i:Nat} {oi:Oper} (hi:ops[i]?=some oi):∀(fuel:Nat) (listed:Array Bool) (t:Nat→AV) (f:Nat→BS),mZ ops listed →
 (∀j oj,ops[j]?=some oj→j≠i→listed.getD j true=false→(aH oi.op = .g→i<j)∧oT z ops (vp [] ops.toList) i j oi oj=true)→i∈Region.ready .any ops listed→(∀j,j<ops.size→listed.getD j true=false→f (n0+j) = .fresh) →
 iH P z ops n0 n i (fun t' f'=>dY P z ops n0 n K fuel (listed.setIfInBounds i true) t' f') t f→dY P z ops n0 n K (fuel+1) listed t f:=by
 intro fuel
 induction fuel with
 | zero =>
  intro listed t f hsh _ hr _ H
  refine ⟨fun h=>(by rw [h] at hr; cases hr),fun j hj=>?_⟩
  by_cases hji:j=i
  ·subst hji; exact H
  ·have:=ready_mono hj hji
   obtain ⟨t',f',h1,_⟩:=Be (rv hsh hr hj (Ne.symm hji)) H
   rw [h1] at this
   cases this
 | succ fuel ih =>
  intro listed t f hsh hp hr hids H
  refine ⟨fun h=>(by rw [h] at hr; cases hr),fun j hj=>?_⟩
  by_cases hji:j=i
  ·subst hji; exact H
  ·obtain ⟨hjun,oj,hoj,hall⟩:=mem_ready.1 hj
   have hiun:=(mem_ready.1 hr).1
   have hlti:i<ops.size:=(Array.getElem?_eq_some_iff.1 hi).1
   have hltj:j<ops.size:=(Array.getElem?_eq_some_iff.1 hoj).1
   obtain ⟨hij,hpair⟩:=hp j oj hoj hji hjun
   have hnw:((vp [] ops.toList).getD j 0).testBit i=false:=by
    cases hb:((vp [] ops.toList).getD j 0).testBit i with
    | false=>rfl
    | true =>
     have:=fw hsh j (fun o ho e he hb=>by rw [hoj] at ho; injection ho with ho; subst ho; exact hall e he hb) i hb
     rcases Nat.lt_or_ge i listed.size with h'|h'
     ·simp [h'] at this hiun; rw [this] at hiun; cases hiun
     ·simp [Array.getElem?_eq_none h'] at this
   simp only [oT,hnw,Bool.false_or,Bool.and_eq_true] at hpair
   have H1:iH P z ops n0 n i (fun t' f'=>iH P z ops n0 n j (fun t' f'=>dY P z ops n0 n K fuel ((listed.setIfInBounds i true).setIfInBounds j true) t' f') t' f') t f :=
    nN (fun t' f' _ h=>h.2 j (ready_mono hj hji)) H
   have H2:=Bc hi hoj (Ne.symm hji) hpair.1 hpair.2 (fun hg=>by unfold Ew gB; rw [hnw]; simp [hij hg,hi,hg]) (rv hsh hr hj (Ne.symm hji)) (rv hsh hj hr hji) (hids i hlti hiun) (hids j hltj hjun) H1
   refine nN (fun t' f' hfr h=>ih (listed.setIfInBounds j true) t' f' ?_ ?_ (ready_mono hr (Ne.symm hji)) ?_ ?_) H2
   ·intro m hm o ho e he hb
    by_cases hmj:j=m
    ·subst hmj; rw [hoj] at ho; injection ho with ho; subst ho; exact getD_set_true (hall e he hb)
    ·rw [getD_set_ne false hmj] at hm; exact getD_set_true (hsh m hm o ho e he hb)
   ·intro m om hom hmi hun
    refine hp m om hom hmi ?_
    by_cases hjm:j=m
    ·subst hjm; exact hjun
    ·rw [getD_set_ne true hjm] at hun; exact hun
   ·intro m hm hun
    have hjm:j≠m:=by
     intro he; subst he
     rcases Nat.lt_or_ge j listed.size with h'|h'
     ·simp [h'] at hun
     ·simp [Array.getElem?_eq_none h'] at hjun
    rw [getD_set_ne true hjm] at hun
    exact hfr _ (by omega) (hids m hm hun)
   ·rw [Array.setIfInBounds_comm _ _ hji]
    exact h
def fP (z:Bool) (ops:Array Oper):Bool :=
 ops.toList.zipIdx.all fun (oj,j)=>(oj.after.toList.all fun e => !Region.binds .any e || decide (e.on<j)) &&
  (ops.toList.zipIdx.all fun (oi,i) => !decide (i<j) || oT z ops (vp [] ops.toList) i j oi oj)
theorem eH {z:Bool} {ops:Array Oper} (h:fP z ops=true) {j:Nat} {oj:Oper} (hj:ops[j]?=some oj):(∀e∈oj.after,Region.binds .any e=true→e.on<j)∧∀i oi,ops[i]?=some oi→i<j→oT z ops (vp [] ops.toList) i j oi oj=true:=by
 unfold fP at h
 rw [List.all_eq_true] at h
 have hmem:∀(i:Nat) (oi:Oper),ops[i]?=some oi→(oi,i)∈ops.toList.zipIdx:=fun i oi hi=>by
  rw [List.mem_zipIdx_iff_getElem?]; simpa using hi
 have h1:=h (oj,j) (hmem j oj hj)
 simp only [Bool.and_eq_true,List.all_eq_true] at h1
 refine ⟨fun e he hb=>?_,fun i oi hi hij=>?_⟩
 ·have:=h1.1 e (by simpa using he)
  simpa [hb] using this
 ·have:=h1.2 (oi,i) (hmem i oi hi)
  simpa [hij] using this
theorem nJ {P:Program} {z:Bool} {ops:Array Oper} (hlex:fP z ops=true) {n0 n:Nat} {K:St→Prop}:∀(l:List Oper) (k:Nat) (listed:Array Bool) (t:Nat→AV) (f:Nat→BS),(∀j,l[j]?=ops[k+j]?)→listed.size=ops.size→(∀j,j<ops.size→listed.getD j true=decide (j<k)) →
 (∀j,j<ops.size→k≤j→f (n0+j) = .fresh)→du P z true ops n0 K k l t f n→dY P z ops n0 n (fun t f=>K ⟨t,dB n f,n⟩) l.length listed t f
 | [],k,listed,t,f,hl,hsz,hli,_,h=>by
  simp only [du] at h
  refine ⟨?_,h⟩
  have hk:ops.size≤k:=by
   rcases Nat.lt_or_ge k ops.size with h'|h'
   ·have:=hl 0; simp [h'] at this
   ·exact h'
  unfold Region.ready
  rw [List.filter_eq_nil_iff]
  intro j hj
  rw [List.mem_range] at hj
  have:=hli j hj
  rw [this]
  simp; omega
 | o::l,k,listed,t,f,hl,hsz,hli,hfr,h=>by
  have ho:ops[k]?=some o:=by have:=hl 0; simpa using this.symm
  have hk:k<ops.size:=(Array.getElem?_eq_some_iff.1 ho).1
  have hsh:mZ ops listed:=by
   intro j hj o' ho' e he hb
   have hjs:j<ops.size:=(Array.getElem?_eq_some_iff.1 ho').1
   have hjk:j<k:=by
    have h1:=hli j hjs
    have h2:listed.getD j true=true:=by
     rw [Array.getD_eq_getD_getElem?] at hj ⊢
     rw [Array.getElem?_eq_getElem (by omega)] at hj ⊢
     simpa using hj
    rw [h2] at h1; simpa using h1.symm
   have hej:=(eH hlex ho').1 e he hb
   have h3:=hli e.on (by omega)
   rw [Array.getD_eq_getD_getElem?,Array.getElem?_eq_getElem (by omega)] at h3 ⊢
   simp only [Option.getD_some] at h3 ⊢
   rw [h3]; simp; omega
  refine nI ho l.length listed t f hsh (fun j oj hoj hji hun=>?_) ?_ (fun j hj hun=>?_) ?_
  ·have hjs:j<ops.size:=(Array.getElem?_eq_some_iff.1 hoj).1
   rw [hli j hjs] at hun
   have hkj:k<j:=by simp at hun; omega
   exact ⟨fun _=>hkj,(eH hlex hoj).2 k o ho hkj⟩
  ·rw [mem_ready]
   refine ⟨by rw [hli k hk]; simp,o,ho,fun e he hb=>?_⟩
   have hej:=(eH hlex ho).1 e he hb
   have h3:=hli e.on (by omega)
   rw [Array.getD_eq_getD_getElem?,Array.getElem?_eq_getElem (by omega)] at h3 ⊢
   simp only [Option.getD_some] at h3 ⊢
   rw [h3]; simp; omega
  ·rw [hli j hj] at hun
   exact hfr j hj (by simp at hun; omega)
  ·
   have conv:∀(J:AV→(Nat→BS)→Nat→Prop) (t0:Nat→AV),fY P z true (dv ops k) (fe z true ops n0 k) (n0+k) n o.op (a_ t0) f J→fY P z true (dv ops k) (fe z true ops n0 k) (n0+k) n o.op (a_ t0) f fun v f' _=>J v f' n:=by
    intro J t0 hJ
    unfold fY at hJ ⊢
    cases hc:aH o.op<;>simp only [hc,kX,cond_true,Bool.cond_self] at hJ ⊢ <;> exact hJ
   have hnext:∀t' f',(∀m,m≠n0+k→f m = .fresh→f' m = .fresh)→du P z true ops n0 K (k+1) l t' f' n→dY P z ops n0 n (fun t f=>K ⟨t,dB n f,n⟩) l.length (listed.setIfInBounds k true) t' f':=by
    intro t' f' hfr' h'
    refine nJ hlex l (k+1) _ t' f' (fun j=>?_) (by simpa using hsz) (fun j hj=>?_) (fun j hj hkj=>hfr' _ (by omega) (hfr j hj (by omega))) h'
    ·have:=hl (j+1); simpa [Nat.add_assoc,Nat.add_comm 1 j] using this
    ·by_cases hkj:k=j
     ·subst hkj; simp [hsz,hk]
     ·rw [getD_set_ne true hkj,hli j hj]
      simp; omega
   simp only [du] at h
   have hat:iH P z ops n0 n k (fun t' f'=>du P z true ops n0 K (k+1) l t' f' n) t f:=by
    unfold iH
    simp only [ho]
    cases hg:o.guard with
    | none=>simp only [hg] at h ⊢; exact conv _ t h
    | some q =>
     obtain ⟨j,want⟩:=q
     simp only [hg] at h ⊢
     cases hgs:er ops j with
     | none=>simp only [hgs] at h
     | some d =>
      simp only [hgs] at h ⊢
      cases htd:t d with
      | bool b =>
       simp only [htd] at h ⊢
       refine ⟨fun hb=>?_,fun hb=>?_⟩
       ·have hu:=ij t d (v := .bool want) (by rw [htd,hb])
        have:=h.1 hb
        rw [hu] at this
        exact conv _ t this
       ·have hu:=ij t d (v := .bool (!want)) (by rw [htd,hb])
        have:=h.2 hb
        rw [hu] at this
        exact this
      | tup cs =>
       cases cs with
       | nil=>simp only [htd] at h ⊢; exact h
       | cons c cs=>simp only [htd] at h
      | _=>simp only [htd] at h
   exact nN (fun t' f' hfr' h'=>hnext t' f' hfr' h') hat
theorem nK {P:Program} {z:Bool} {rr:Option Nat} (hro:rr=rr) {ops:Array Oper} {n0 n ne N:Nat} {c0:Cx} {K:(Nat→AV)→(Nat→BS)→Prop} {Q:Exit→Act→World→Prop} (hdst:∀o∈ops.toList,∀d,o.dst=some d→d<N) (hn:n0+ops.size≤n)
 (hQ:∀t f a w,K t f→mY c0 ne N ⟨t,dB n f,n⟩ a w→Q .normal a w):∀(fuel:Nat) (listed:Array Bool) (t:Nat→AV) (f:Nat→BS) (a:Act) (c:Cx),dY P z ops n0 n K fuel listed t f→HOk c f→(∀j,n≤j→f j = .fresh) →
  (∀j,j<ops.size→listed.getD j true=false→f (n0+j) = .fresh)→(∀k,Rv c (t k) (a.tmps.getD k undef))→a.tmps.size=N→cU c c0.w.heap.size a.defers→Stp c0 c→(∀j,c0.U j→j<ne)→ne≤n→wpAnyIn (Fr rr) 0 P .any ops Q fuel listed a c.w:=by
 intro fuel
 induction fuel with
 | zero =>
  intro listed t f a c h hk hfr hids ht hN hd hs h0 hne
  exact ⟨h.1,hQ t f a c.w h.2 ⟨c.past n,rfl,hk.past hfr,iT hfr,fun k=>(ht k).keep (Stp.past c n) hk.shut,hN,hd.keep (Stp.past c n),hs.trans (Stp.past c n),h0,hne⟩⟩
 | succ fuel ih =>
  intro listed t f a c h hk hfr hids ht hN hd hs h0 hne
  refine ⟨fun hr=>hQ t f a c.w (h.1 hr) ⟨c.past n,rfl,hk.past hfr,iT hfr,fun k=>(ht k).keep (Stp.past c n) hk.shut,hN,hd.keep (Stp.past c n),hs.trans (Stp.past c n),h0,hne⟩,fun i hi=>?_⟩
  have hat:=h.2 i hi
  obtain ⟨hun,o,ho,hall⟩:=mem_ready.1 hi
  have hlt:i<ops.size:=(Array.getElem?_eq_some_iff.1 ho).1
  have hds:∀d,o.dst=some d→d<a.tmps.size:=fun d h=>by rw [hN]; exact hdst o (by simpa using Array.mem_of_getElem? ho) d h
  have next:∀(t':Nat→AV) (f':Nat→BS) (a':Act) (c':Cx),dY P z ops n0 n K fuel (listed.setIfInBounds i true) t' f'→HOk c' f'→Stp c c'→(∀k,Rv c' (t' k) (a'.tmps.getD k undef))→a'.tmps.size=N→cU c' c0.w.heap.size a'.defers →
   (∀j,j<n→j≠n0+i→f j = .fresh→f' j = .fresh)→(∀j,n≤j→f' j = .fresh)→wpAnyIn (Fr rr) 0 P .any ops Q fuel (listed.setIfInBounds i true) a' c'.w:=by
   intro t' f' a' c' h1 h2 h3 h4 h5 h6 h7 h8
   refine ih _ t' f' a' c' h1 h2 h8 (fun j hj hun'=>?_) h4 h5 h6 (hs.trans h3) h0 hne
   have hij:i≠j:=by
    intro he; subst he
    rcases Nat.lt_or_ge i listed.size with h'|h'
    ·simp [h'] at hun'
    ·simp [Array.getElem?_eq_none h'] at hun
   rw [getD_set_ne true hij] at hun'
   exact h7 _ (by omega) (by omega) (hids j hj hun')
  have step:fY P z true (dv ops i) (fe z true ops n0 i) (n0+i) n o.op (a_ t) f (fun v f' _=>dY P z ops n0 n K fuel (listed.setIfInBounds i true) (aG t o.dst v) f')→o.wpIn (Fr rr) 0 P a c.w (wpAnyIn (Fr rr) 0 P .any ops Q fuel (listed.setIfInBounds i true)) Q:=by
   intro hop
   refine jn (z:=z) (q:=true) (bq:=dv ops i) (hd:=fe z true ops n0 i) (K:=fun v f' n'=>n'=n∧dY P z ops n0 n K fuel (listed.setIfInBounds i true) (aG t o.dst v) f') ?_ hk hfr (hids i hlt hun) (fun h=>by cases h) (fun _=>by omega) (jV ht) fun v c' r f' n' hK hk' hs' hr' hn' hold _=>?_
   ·unfold fY at hop ⊢
    cases hc:aH o.op<;>simp only [hc,kX,cond_true,Bool.cond_self] at hop ⊢
    ·split at hop
     ·exact ⟨hop.1,trivial,hop.2⟩
     ·exact hop
    ·split at hop
     ·exact ⟨hop.1,trivial,hop.2⟩
     ·exact hop
    ·split at hop
     ·exact ⟨hop.1,trivial,hop.2⟩
     ·exact hop
    ·obtain ⟨v,f',g1,g2,_⟩:=ju hop
     exact g1 _ ⟨g2.1,trivial,g2.2⟩
    ·split at hop
     ·split at hop
      ·simp only [if_true] at hop ⊢
       rcases hop with ⟨r,g1,g5⟩|⟨g1,g2⟩
       ·exact .inl ⟨r,g1,trivial,g5⟩
       ·exact .inr ⟨g1,g2.mono fun r f' _ q=>⟨trivial,q⟩⟩
      ·exact hop
     ·exact hop
    ·exact hop.elim
   ·obtain ⟨rfl,hK⟩:=hK
    exact next _ f' _ c' hK hk' hs' (fh (fun k=>(ht k).keep hs' hk.shut) hds hr') (by rw [cO]; exact hN) (by rw [bK]; exact hd.keep hs') (fun j _ hj hf=>(hold rfl).2 j hj hf) (fun j hj=>(hold rfl).2 j (by omega) (hfr j hj))
  unfold wpOpIn
  simp only [ho]
  unfold iH at hat
  simp only [ho] at hat
  cases hg:o.guard with
  | none =>
   simp only [hg] at hat
   rw [if_pos (by simp [Region.wanted,hg])]
   exact step hat
  | some q =>
   obtain ⟨j,want⟩:=q
   simp only [hg] at hat
   split at hat
   ·rename_i d hgs
    split at hat
    ·rename_i b htd
     have hy:=iG ht hgs htd
     by_cases hb:b=want
     ·rw [if_pos (by simp [Region.wanted,hg,hy,hb])]
      exact step (hat.1 hb)
     ·rw [if_neg (by simp [Region.wanted,hg,hy,hb])]
      have hb':b = !want:=by cases b<;>cases want<;>simp_all
      exact ⟨fun _ _=>trivial,next _ f _ c (hat.2 hb') hk (Stp.refl c) (fh ht hds (e_ c)) (by rw [cO]; exact hN) (by rw [bK]; exact hd) (fun _ _ _ h=>h) hfr⟩
    ·rename_i htd
     have hy:=gm ht hgs htd
     rw [if_neg (by simp [Region.wanted,hg,hy])]
     exact ⟨fun _ _=>trivial,next _ f _ c hat hk (Stp.refl c) (fh ht hds (e_ c)) (by rw [cO]; exact hN) (by rw [bK]; exact hd) (fun _ _ _ h=>h) hfr⟩
    ·exact hat.elim
   ·exact hat.elim
theorem nZ {P:Program} {z:Bool} {rr:Option Nat} (hm:P.follows .mixedOrders=true) {id ne N:Nat} {ops:Array Oper} (hlex:fP z ops=true) (hdst:∀o∈ops.toList,∀d,o.dst=some d→d<N) {c0:Cx} {K:St→Prop} {Q:Exit→Act→World→Prop}
 (hQ:∀s a w,K s→mY c0 ne N s a w→Q .normal a w) {s:St} {a:Act} {w:World} (h:du P z true ops s.n K 0 ops.toList s.t s.f (s.n+ops.size)) (hs:mY c0 ne N s a w):(Code.region id ops true).wpIn (Fr rr) 0 P Q a w:=by
 obtain ⟨c,rfl,hk,hfr,ht,hN,hd,hst,h0,hne⟩:=hs
 refine wpIn_region_any hm ?_
 have hany:=nJ hlex ops.toList 0 (Array.replicate ops.size false) s.t s.f (by simp) (by simp) (fun j hj=>by simp [hj]) (fun j hj _=>(hfr _).2 (by omega)) h
 rw [Array.length_toList] at hany
 exact nK (rr:=rr) rfl (n0:=s.n) (n:=s.n+ops.size) hdst (Nat.le_refl _) (fun t f a w hK hS=>hQ ⟨t,dB (s.n+ops.size) f,s.n+ops.size⟩ a w hK hS) ops.size _ s.t s.f a c.drew hany hk.drew (fun j hj=>(hfr j).2 (by omega)) (fun j hj _=>(hfr _).2 (by omega)) (fun k=>(ht k).keep (Stp.drew c) hk.shut) hN (hd.keep (Stp.drew c)) (hst.trans (Stp.drew c)) h0 (by omega)
theorem yY {P:Program} {z:Bool} {rr:Option Nat} (hm:P.follows .mixedOrders=true) {id ne N:Nat} {ops:Array Oper} (hdst:∀o∈ops.toList,∀d,o.dst=some d→d<N) {c0:Cx} {K:St→Prop} {Q:Exit→Act→World→Prop}
 (hQ:∀s a w,K s→mY c0 ne N s a w→Q .normal a w) {s:St} {a:Act} {w:World} (h:dY P z ops s.n (s.n+ops.size) (fun t f=>K ⟨t,dB (s.n+ops.size) f,s.n+ops.size⟩) ops.size (Array.replicate ops.size false) s.t s.f) (hs:mY c0 ne N s a w):(Code.region id ops true).wpIn (Fr rr) 0 P Q a w:=by
 obtain ⟨c,rfl,hk,hfr,ht,hN,hd,hst,h0,hne⟩:=hs
 refine wpIn_region_any hm ?_
 exact nK (rr:=rr) rfl (n0:=s.n) (n:=s.n+ops.size) hdst (Nat.le_refl _) (fun t f a w hK hS=>hQ ⟨t,dB (s.n+ops.size) f,s.n+ops.size⟩ a w hK hS) ops.size _ s.t s.f a c.drew h hk.drew (fun j hj=>(hfr j).2 (by omega)) (fun j hj _=>(hfr _).2 (by omega)) (fun k=>(ht k).keep (Stp.drew c) hk.shut) hN (hd.keep (Stp.drew c)) (hst.trans (Stp.drew c)) h0 (by omega)
def xf (ops:Array Oper) (i:Nat):Bool:=decide (i≤ops.size) && (List.range ops.size).all fun j=>decide (j<i) || (List.range j).all fun k=>((vp [] ops.toList).getD j 0).testBit k
def sS (ops:Array Oper) (i:Nat):Bool:=fP false (ops.extract 0 i) && fP true ops && xf ops i
theorem jk {ops:Array Oper} {i:Nat} (h:xf ops i=true):i≤ops.size∧∀j,j<ops.size→i≤j→∀k,k<j→((vp [] ops.toList).getD j 0).testBit k=true:=by
 unfold xf at h
 simp only [Bool.and_eq_true,decide_eq_true_eq,List.all_eq_true,List.mem_range,Bool.or_eq_true] at h
 refine ⟨h.1,fun j hj hij k hk=>?_⟩
 rcases h.2 j hj with h1|h1
 ·omega
 ·exact h1 k hk
def yS (ops:Array Oper) (k:Nat) (listed:Array Bool):Prop:=listed.size=ops.size∧∀j,j<ops.size→listed.getD j true=decide (j<k)
theorem AR {ops:Array Oper} {k:Nat} {listed:Array Bool} (h:yS ops k listed) (hk:k<ops.size):yS ops (k+1) (listed.setIfInBounds k true):=by
 refine ⟨by rw [Array.size_setIfInBounds]; exact h.1,fun j hj=>?_⟩
 by_cases e:k=j
 ·subst e
  rw [Array.getD_eq_getD_getElem?,Array.getElem?_setIfInBounds_self_of_lt (by rw [h.1]; exact hk)]
  simp
 ·rw [getD_set_ne true e,h.2 j hj]
  simp; omega
theorem cK {l:Array Bool} {j:Nat} (h:j<l.size):l.getD j true=l.getD j false:=by
 rw [Array.getD_eq_getD_getElem?,Array.getD_eq_getD_getElem?,Array.getElem?_eq_getElem h]; rfl
theorem AS {ops:Array Oper} (hlex:fP true ops=true) {k:Nat} {listed:Array Bool} (h:yS ops k listed):mZ ops listed:=by
 intro j hj o ho e he hb
 have hjs:j<ops.size:=(Array.getElem?_eq_some_iff.1 ho).1
 have hej:=(eH hlex ho).1 e he hb
 rw [←cK (by rw [h.1]; exact hjs),h.2 j hjs] at hj
 rw [←cK (by rw [h.1]; omega),h.2 e.on (by omega)]
 simp at hj ⊢; omega
theorem qX {ops:Array Oper} (hlex:fP true ops=true) {i:Nat} (hrow:xf ops i=true) {k:Nat} (hik:i≤k) {listed:Array Bool} (h:yS ops k listed) {j:Nat} (hj:j∈Region.ready .any ops listed):j=k:=by
 obtain ⟨hun,o,ho,hall⟩:=mem_ready.1 hj
 have hjs:j<ops.size:=(Array.getElem?_eq_some_iff.1 ho).1
 rw [h.2 j hjs] at hun
 have hkj:k≤j:=by simpa using hun
 rcases Nat.lt_or_ge k j with hlt|hge
 ·have hb:=(jk hrow).2 j hjs (by omega) k hlt
  have:=fw (AS hlex h) j (fun o' ho' e he hb=>by rw [ho] at ho'; injection ho' with ho'; subst ho'; exact hall e he hb) k hb
  rw [←cK (by rw [h.1]; omega),h.2 k (by omega)] at this
  simp at this
 ·omega
theorem wW {P:Program} {rr:Option Nat} {ops:Array Oper} {i n0 ne N:Nat} {c0:Cx} {K:St→Prop} {Q:Exit→Act→World→Prop} (hlex:fP true ops=true) (hrow:xf ops i=true) (hdst:∀o∈ops.toList,∀d,o.dst=some d→d<N) (hQ:∀s a w,K s→mY c0 ne N s a w→Q .normal a w) :
 ∀(l:List Oper) (k:Nat) (listed:Array Bool) (t:Nat→AV) (f:Nat→BS) (n:Nat) (a:Act) (c:Cx),i≤k→(∀j,l[j]?=ops[k+j]?)→yS ops k listed→du P false false ops n0 K k l t f n→HOk c f→(∀j,f j = .fresh↔n≤j) →
  (∀k,Rv c (t k) (a.tmps.getD k undef))→a.tmps.size=N→cU c c0.w.heap.size a.defers→Stp c0 c→(∀j,c0.U j→j<ne)→ne≤n→wpAnyIn (Fr rr) 0 P .any ops Q l.length listed a c.w:=by
 intro l
 induction l with
 | nil =>
  intro k listed t f n a c hik hl hu h hk hfr ht hN hd hs h0 hne
  refine ⟨?_,hQ ⟨t,f,n⟩ a c.w h ⟨c,rfl,hk,hfr,ht,hN,hd,hs,h0,hne⟩⟩
  rw [List.eq_nil_iff_forall_not_mem]
  intro j hj
  have e:=qX hlex hrow hik hu hj
  subst e
  obtain ⟨_,o,ho,_⟩:=mem_ready.1 hj
  have:=hl 0
  simp only [Nat.add_zero] at this
  rw [ho] at this
  simp at this
 | cons o rest ih =>
  intro k listed t f n a c hik hl hu h hk hfr ht hN hd hs h0 hne
  have ho:ops[k]?=some o:=by have:=hl 0; simpa using this.symm
  have hks:k<ops.size:=(Array.getElem?_eq_some_iff.1 ho).1
  have hl':∀j,rest[j]?=ops[k+1+j]?:=fun j=>by have:=hl (j+1); simpa [Nat.add_assoc,Nat.add_comm 1 j] using this
  have hu':=AR hu hks
  have hds:∀d,o.dst=some d→d<a.tmps.size:=fun d h=>by rw [hN]; exact hdst o (by simpa using Array.mem_of_getElem? ho) d h
  refine ⟨fun hr=>?_,fun j hj=>?_⟩
  ·
   exfalso
   have:k∈Region.ready .any ops listed:=by
    rw [mem_ready]
    refine ⟨by rw [hu.2 k hks]; simp,o,ho,fun e he hb=>?_⟩
    have hej:=(eH hlex ho).1 e he hb
    rw [←cK (by rw [hu.1]; omega),hu.2 e.on (by omega)]
    simp; omega
   rw [hr] at this
   cases this
  have e:=qX hlex hrow hik hu hj
  subst e
  have step:∀t',(∀k,Rv c (t' k) (a.tmps.getD k undef))→fY P false false (dv ops j) (fe false false ops n0 j) (pI false n0 j n) n o.op (a_ t') f (fun v f' n'=>du P false false ops n0 K (j+1) rest (aG t' o.dst v) f' n') →
   o.wpIn (Fr rr) 0 P a c.w (wpAnyIn (Fr rr) 0 P .any ops Q rest.length (listed.setIfInBounds j true)) Q:=by
   intro t' ht' hop
   refine jn hop hk (fun j hj=>(hfr j).2 hj) ((hfr n).2 (Nat.le_refl _)) (fun _=>⟨rfl,hfr⟩) (fun h=>by cases h) (jV ht') fun v c' r f' n' hK hk' hs' hr' hn' _ hnew=>?_
   exact ih (j+1) _ _ f' n' _ c' (by omega) hl' hu' hK hk' (hnew rfl) (fh (fun k=>(ht' k).keep hs' hk.shut) hds hr') (by rw [cO]; exact hN) (by rw [bK]; exact hd.keep hs') (hs.trans hs') h0 (by omega)
  unfold wpOpIn
  simp only [ho]
  simp only [du] at h
  split at h
  ·rename_i hg
   rw [if_pos (by simp [Region.wanted,hg])]
   exact step t ht h
  ·rename_i m want hg
   split at h
   ·rename_i d hgs
    split at h
    ·rename_i b htd
     have hy:=iG ht hgs htd
     obtain ⟨h1,h2⟩:=h
     by_cases hb:b=want
     ·have hu:=ij t d (v := .bool want) (by rw [htd,hb])
      rw [hu] at h1
      rw [if_pos (by simp [Region.wanted,hg,hy,hb])]
      exact step t ht (h1 hb)
     ·have hb':b = !want:=by cases b<;>cases want<;>simp_all
      have hu2:=ij t d (v := .bool (!want)) (by rw [htd,hb'])
      rw [hu2] at h2
      rw [if_neg (by simp [Region.wanted,hg,hy,hb])]
      exact ⟨fun _ _=>trivial,ih (j+1) _ _ f n _ c (by omega) hl' hu' (h2 hb') hk hfr (fh ht hds (e_ c)) (by rw [cO]; exact hN) (by rw [bK]; exact hd) hs h0 hne⟩
    ·rename_i htd
     have hy:=gm ht hgs htd
     rw [if_neg (by simp [Region.wanted,hg,hy])]
     exact ⟨fun _ _=>trivial,ih (j+1) _ _ f n _ c (by omega) hl' hu' h hk hfr (fh ht hds (e_ c)) (by rw [cO]; exact hN) (by rw [bK]; exact hd) hs h0 hne⟩
    ·exact h.elim
   ·exact h.elim
theorem kJ {ops:Array Oper} {i j:Nat} {o:Oper} (h:(ops.extract 0 i)[j]?=some o):j<i∧ops[j]?=some o:=by
 rw [Array.getElem?_extract] at h
 split at h
 ·rename_i hj; rw [Nat.zero_add] at h; exact ⟨by omega,h⟩
 ·cases h
theorem vU {ops:Array Oper} {i j:Nat} (h:j<i) (hi:i≤ops.size):(ops.extract 0 i)[j]?=ops[j]?:=by
 rw [Array.getElem?_extract,if_pos (by omega),Nat.zero_add]
def yQ (ops:Array Oper) (i:Nat) (lA l:Array Bool):Prop:=lA.size=i∧l.size=ops.size∧(∀j,j<i→lA.getD j true=l.getD j true)∧(∀j,i≤j→j<ops.size→l.getD j true=false)
theorem zZ {ops:Array Oper} {i j:Nat} {lA l:Array Bool} (h:yQ ops i lA l) (hj:j<i):yQ ops i (lA.setIfInBounds j true) (l.setIfInBounds j true):=by
 obtain ⟨h1,h2,h3,h4⟩:=h
 refine ⟨by rw [Array.size_setIfInBounds]; exact h1,by rw [Array.size_setIfInBounds]; exact h2,fun k hk=>?_,fun k hk hk2=>?_⟩
 ·by_cases e:j=k
  ·subst e
   rcases Nat.lt_or_ge j ops.size with hs|hs
   ·rw [Array.getD_eq_getD_getElem?,Array.getD_eq_getD_getElem?,Array.getElem?_setIfInBounds_self_of_lt (by omega),Array.getElem?_setIfInBounds_self_of_lt (by omega)]
   ·rw [Array.getD_eq_getD_getElem?,Array.getD_eq_getD_getElem?,Array.getElem?_setIfInBounds_self_of_lt (by omega),Array.getElem?_eq_none (by rw [Array.size_setIfInBounds]; omega)]
    rfl
  ·rw [getD_set_ne true e,getD_set_ne true e]; exact h3 k hk
 ·rw [getD_set_ne true (by omega)]; exact h4 k hk hk2
theorem z_ {ops:Array Oper} {i:Nat} {lA l:Array Bool} (h:yQ ops i lA l) (hi:i≤ops.size) (hs:mZ (ops.extract 0 i) lA):mZ ops l:=by
 obtain ⟨h1,h2,h3,h4⟩:=h
 intro j hj o ho e he hb
 have hjs:j<ops.size:=(Array.getElem?_eq_some_iff.1 ho).1
 rw [←cK (by omega)] at hj
 rcases Nat.lt_or_ge j i with hji|hji
 ·have:=hs j (by rw [←cK (by omega),h3 j hji]; exact hj) o (by rw [vU hji hi]; exact ho) e he hb
  have hlt:e.on<lA.size:=by
   rcases Nat.lt_or_ge e.on lA.size with h'|h'
   ·exact h'
   ·simp [Array.getElem?_eq_none h'] at this
  rw [←cK hlt,h3 e.on (by omega),cK (by omega)] at this
  exact this
 ·rw [h4 j hji hjs] at hj; cases hj
theorem wl {ops:Array Oper} {i:Nat} (hrow:xf ops i=true) {lA l:Array Bool} (h:yQ ops i lA l) (hs:mZ (ops.extract 0 i) lA) {j:Nat} (hj:j∈Region.ready .any ops l):(j<i∧j∈Region.ready .any (ops.extract 0 i) lA)∨(i≤j∧∀k,k<i→lA.getD k true=true):=by
 have hi:=(jk hrow).1
 obtain ⟨hun,o,ho,hall⟩:=mem_ready.1 hj
 have hjs:j<ops.size:=(Array.getElem?_eq_some_iff.1 ho).1
 have hsh:=z_ h hi hs
 obtain ⟨h1,h2,h3,h4⟩:=h
 rcases Nat.lt_or_ge j i with hji|hji
 ·refine .inl ⟨hji,?_⟩
  rw [mem_ready]
  refine ⟨by rw [h3 j hji]; exact hun,o,by rw [vU hji hi]; exact ho,fun e he hb=>?_⟩
  have:=hall e he hb
  have hlt:e.on<l.size:=by
   rcases Nat.lt_or_ge e.on l.size with h'|h'
   ·exact h'
   ·simp [Array.getElem?_eq_none h'] at this
  rcases Nat.lt_or_ge e.on i with he'|he'
  ·rw [←cK (by omega),h3 e.on he',cK hlt]; exact this
  ·rw [←cK hlt,h4 e.on he' (by omega)] at this; cases this
 ·refine .inr ⟨hji,fun k hk=>?_⟩
  have hb:=(jk hrow).2 j hjs hji k (by omega)
  have:=fw hsh j (fun o' ho' e he hb=>by rw [ho] at ho'; injection ho' with ho'; subst ho'; exact hall e he hb) k hb
  rw [h3 k hk,cK (by omega)]
  exact this
theorem Du {ops:Array Oper} {l:Array Bool} {j:Nat} (hs:mZ ops l) (hj:j∈Region.ready .any ops l):mZ ops (l.setIfInBounds j true):=by
 obtain ⟨_,oj,hoj,hall⟩:=mem_ready.1 hj
 intro m hm o ho e he hb
 by_cases hmj:j=m
 ·subst hmj; rw [hoj] at ho; injection ho with ho; subst ho; exact getD_set_true (hall e he hb)
 ·rw [getD_set_ne false hmj] at hm; exact getD_set_true (hs m hm o ho e he hb)
theorem EX {F:Fence} {n:Nat} {P:Program} {ops:Array Oper} {Q:Exit→Act→World→Prop} {i:Nat} {K K':Act→World→Prop} {a:Act} {w:World} (h:∀a w,K a w→K' a w) (g:wpOpIn F n P ops Q i K a w):wpOpIn F n P ops Q i K' a w:=by
 unfold wpOpIn at g ⊢
 split
 ·rename_i e; rw [e] at g; exact h _ _ g
 ·rename_i o e
  rw [e] at g
  simp only at g
  split
  ·rename_i hw; rw [if_pos hw] at g; exact Oper.wpIn_mono h g
  ·rename_i hw; rw [if_neg hw] at g; exact ⟨g.1,h _ _ g.2⟩
theorem tq {F:Fence} {n:Nat} {P:Program} {md:Region.Mode} {ops:Array Oper} {Q:Exit→Act→World→Prop}:∀(m:Nat) (l:Array Bool) (a:Act) (w:World),wpAnyIn F n P md ops Q m l a w→wpAnyIn F n P md ops Q (m+1) l a w
 | 0,l,a,w,h=>⟨fun _=>h.2,fun i hi=>by rw [h.1] at hi; cases hi⟩
 | m+1,l,a,w,h=>⟨h.1,fun i hi=>EX (fun a w g=>tq m _ a w g) (h.2 i hi)⟩
theorem xG {F:Fence} {n:Nat} {P:Program} {md:Region.Mode} {ops:Array Oper} {Q:Exit→Act→World→Prop} {m:Nat} {l:Array Bool} {a:Act} {w:World} (h:wpAnyIn F n P md ops Q m l a w):∀k,wpAnyIn F n P md ops Q (k+m) l a w
 | 0=>by rw [Nat.zero_add]; exact h
 | k+1=>by rw [show k+1+m=(k+m)+1 by omega]; exact tq _ _ _ _ (xG h k)
theorem wK {ops:Array Oper} (hlex:∀j o,ops[j]?=some o→∀e∈o.after,Region.binds .any e=true→e.on<j) {l:Array Bool} (hl:l.size=ops.size) (h:Region.ready .any ops l=[]):∀k,k<ops.size→l.getD k true=true:=by
 intro k
 induction k using Nat.strongRecOn with
 | _ k ih =>
  intro hk
  cases hv:l.getD k true with
  | true=>rfl
  | false =>
   have ho:ops[k]?=some ops[k]:=Array.getElem?_eq_getElem hk
   have:k∈Region.ready .any ops l:=by
    rw [mem_ready]
    refine ⟨hv,_,ho,fun e he hb=>?_⟩
    have hej:=hlex k _ ho e he hb
    have:=ih e.on hej (by omega)
    rw [cK (by omega)] at this
    exact this
   rw [h] at this
   cases this
theorem Az {P:Program} {rr:Option Nat} {ops:Array Oper} {i n0 n N:Nat} {c0:Cx} {K:(Nat→AV)→(Nat→BS)→Prop} {Q:Exit→Act→World→Prop} (hlex:fP true ops=true) (hrow:xf ops i=true) (hdst:∀o∈ops.toList,∀d,o.dst=some d→d<N) (hn:n0+i≤n)
 (hend:∀(t:Nat→AV) (f:Nat→BS) (l:Array Bool) (a:Act) (c:Cx),K t f→yS ops i l→HOk c f→(∀j,n≤j→f j = .fresh)→(∀k,Rv c (t k) (a.tmps.getD k undef))→a.tmps.size=N→cU c c0.w.heap.size a.defers→Stp c0 c→wpAnyIn (Fr rr) 0 P .any ops Q (ops.size-i) l a c.w) :
 ∀(fuel:Nat) (lA l:Array Bool) (t:Nat→AV) (f:Nat→BS) (a:Act) (c:Cx),dY P false (ops.extract 0 i) n0 n K fuel lA t f→yQ ops i lA l→mZ (ops.extract 0 i) lA→HOk c f→(∀j,n≤j→f j = .fresh) →
  (∀j,j<i→lA.getD j true=false→f (n0+j) = .fresh)→(∀k,Rv c (t k) (a.tmps.getD k undef))→a.tmps.size=N→cU c c0.w.heap.size a.defers→Stp c0 c→wpAnyIn (Fr rr) 0 P .any ops Q (fuel+(ops.size-i)) l a c.w:=by
 have hi:=(jk hrow).1
 have hAsz:(ops.extract 0 i).size=i:=by rw [Array.size_extract]; omega
 have hlexA:∀j o,(ops.extract 0 i)[j]?=some o→∀e∈o.after,Region.binds .any e=true→e.on<j:=fun j o ho e he hb=>(eH hlex (kJ ho).2).1 e he hb
 have done:∀(fuel:Nat) (lA l:Array Bool) (t:Nat→AV) (f:Nat→BS) (a:Act) (c:Cx),Region.ready .any (ops.extract 0 i) lA=[]→K t f→yQ ops i lA l→HOk c f→(∀j,n≤j→f j = .fresh)→(∀k,Rv c (t k) (a.tmps.getD k undef))→a.tmps.size=N→cU c c0.w.heap.size a.defers→Stp c0 c→wpAnyIn (Fr rr) 0 P .any ops Q (fuel+(ops.size-i)) l a c.w:=by
  intro fuel lA l t f a c hr hK hH hk hfr ht hN hd hs
  have hall:=wK hlexA (by rw [hAsz]; exact hH.1) hr
  refine xG (hend t f l a c hK ⟨hH.2.1,fun j hj=>?_⟩ hk hfr ht hN hd hs) fuel
  rcases Nat.lt_or_ge j i with h'|h'
  ·rw [←hH.2.2.1 j h',hall j (by omega)]; simp [h']
  ·rw [hH.2.2.2 j h' hj]; simp; omega
 intro fuel
 induction fuel with
 | zero =>
  intro lA l t f a c h hH _ hk hfr _ ht hN hd hs
  exact done 0 lA l t f a c h.1 h.2 hH hk hfr ht hN hd hs
 | succ fuel ih =>
  intro lA l t f a c h hH hsh hk hfr hids ht hN hd hs
  by_cases hr:Region.ready .any (ops.extract 0 i) lA=[]
  ·exact done (fuel+1) lA l t f a c hr (h.1 hr) hH hk hfr ht hN hd hs
  rw [show fuel+1+(ops.size-i)=(fuel+(ops.size-i))+1 by omega]
  refine ⟨fun hr2=>?_,fun j hj=>?_⟩
  ·exfalso
   obtain ⟨j,hj⟩:=List.exists_mem_of_ne_nil _ hr
   obtain ⟨hun,o,ho,hall⟩:=mem_ready.1 hj
   obtain ⟨hji,ho'⟩:=kJ ho
   have:j∈Region.ready .any ops l:=by
    rw [mem_ready]
    refine ⟨by rw [←hH.2.2.1 j hji]; exact hun,o,ho',fun e he hb=>?_⟩
    have hej:=hlexA j o ho e he hb
    have:=hall e he hb
    rw [←cK (by rw [hH.1]; omega),hH.2.2.1 e.on (by omega),cK (by rw [hH.2.1]; omega)] at this
    exact this
   rw [hr2] at this
   cases this
  obtain ⟨hji,hjA⟩:j<i∧j∈Region.ready .any (ops.extract 0 i) lA:=by
   rcases wl hrow hH hsh hj with hq|⟨_,hall⟩
   ·exact hq
   ·exfalso
    obtain ⟨m,hm⟩:=List.exists_mem_of_ne_nil _ hr
    obtain ⟨hun,o,ho,_⟩:=mem_ready.1 hm
    have:=hall m (kJ ho).1
    rw [hun] at this
    cases this
  have hat:=h.2 j hjA
  obtain ⟨hun,o,hoA,hall⟩:=mem_ready.1 hjA
  have ho:=(kJ hoA).2
  have hds:∀d,o.dst=some d→d<a.tmps.size:=fun d h=>by rw [hN]; exact hdst o (by simpa using Array.mem_of_getElem? ho) d h
  have next:∀(t':Nat→AV) (f':Nat→BS) (a':Act) (c':Cx),dY P false (ops.extract 0 i) n0 n K fuel (lA.setIfInBounds j true) t' f'→HOk c' f'→Stp c c'→(∀k,Rv c' (t' k) (a'.tmps.getD k undef))→a'.tmps.size=N→cU c' c0.w.heap.size a'.defers →
   (∀m,m<n→m≠n0+j→f m = .fresh→f' m = .fresh)→(∀m,n≤m→f' m = .fresh)→wpAnyIn (Fr rr) 0 P .any ops Q (fuel+(ops.size-i)) (l.setIfInBounds j true) a' c'.w:=by
   intro t' f' a' c' h1 h2 h3 h4 h5 h6 h7 h8
   refine ih _ _ t' f' a' c' h1 (zZ hH hji) (Du hsh hjA) h2 h8 (fun m hm hun'=>?_) h4 h5 h6 (hs.trans h3)
   have hij:j≠m:=by
    intro he; subst he
    simp [hH.1,hm] at hun'
   rw [getD_set_ne true hij] at hun'
   exact h7 _ (by omega) (by omega) (hids m hm hun')
  have step:fY P false true (dv (ops.extract 0 i) j) (fe false true (ops.extract 0 i) n0 j) (n0+j) n o.op (a_ t) f (fun v f' _=>dY P false (ops.extract 0 i) n0 n K fuel (lA.setIfInBounds j true) (aG t o.dst v) f')→o.wpIn (Fr rr) 0 P a c.w (wpAnyIn (Fr rr) 0 P .any ops Q (fuel+(ops.size-i)) (l.setIfInBounds j true)) Q:=by
   intro hop
   refine jn (z:=false) (q:=true) (bq:=dv (ops.extract 0 i) j) (hd:=fe false true (ops.extract 0 i) n0 j) (K:=fun v f' n'=>n'=n∧dY P false (ops.extract 0 i) n0 n K fuel (lA.setIfInBounds j true) (aG t o.dst v) f') ?_ hk hfr (hids j hji hun) (fun h=>by cases h) (fun _=>by omega) (jV ht) fun v c' r f' n' hK hk' hs' hr' hn' hold _=>?_
   ·unfold fY at hop ⊢
    cases hc:aH o.op<;>simp only [hc,kX,cond_true,Bool.cond_self] at hop ⊢
    ·split at hop
     ·exact ⟨hop.1,trivial,hop.2⟩
     ·exact hop
    ·split at hop
     ·exact ⟨hop.1,trivial,hop.2⟩
     ·exact hop
    ·split at hop
     ·exact ⟨hop.1,trivial,hop.2⟩
     ·exact hop
    ·obtain ⟨v,f',g1,g2,_⟩:=ju hop
     exact g1 _ ⟨g2.1,trivial,g2.2⟩
    ·split at hop
     ·split at hop
      ·simp only [if_true] at hop ⊢
       rcases hop with ⟨r,g1,g5⟩|⟨g1,g2⟩
       ·exact .inl ⟨r,g1,trivial,g5⟩
       ·exact .inr ⟨g1,g2.mono fun r f' _ q=>⟨trivial,q⟩⟩
      ·exact hop
     ·exact hop
    ·exact hop.elim
   ·obtain ⟨rfl,hK⟩:=hK
    exact next _ f' _ c' hK hk' hs' (fh (fun k=>(ht k).keep hs' hk.shut) hds hr') (by rw [cO]; exact hN) (by rw [bK]; exact hd.keep hs') (fun m _ hm hf=>(hold rfl).2 m hm hf) (fun m hm=>(hold rfl).2 m (by omega) (hfr m hm))
  unfold wpOpIn
  simp only [ho]
  unfold iH at hat
  simp only [hoA] at hat
  cases hg:o.guard with
  | none =>
   simp only [hg] at hat
   rw [if_pos (by simp [Region.wanted,hg])]
   exact step hat
  | some q =>
   obtain ⟨m,want⟩:=q
   simp only [hg] at hat
   split at hat
   ·rename_i d hgsA
    have hgs:er ops m=some d:=by
     unfold er at hgsA ⊢
     cases hm:(ops.extract 0 i)[m]? with
     | none=>rw [hm] at hgsA; cases hgsA
     | some om=>rw [hm] at hgsA; rw [(kJ hm).2]; exact hgsA
    split at hat
    ·rename_i b htd
     have hy:=iG ht hgs htd
     by_cases hb:b=want
     ·rw [if_pos (by simp [Region.wanted,hg,hy,hb])]
      exact step (hat.1 hb)
     ·rw [if_neg (by simp [Region.wanted,hg,hy,hb])]
      have hb':b = !want:=by cases b<;>cases want<;>simp_all
      exact ⟨fun _ _=>trivial,next _ f _ c (hat.2 hb') hk (Stp.refl c) (fh ht hds (e_ c)) (by rw [cO]; exact hN) (by rw [bK]; exact hd) (fun _ _ _ h=>h) hfr⟩
    ·rename_i htd
     have hy:=gm ht hgs htd
     rw [if_neg (by simp [Region.wanted,hg,hy])]
     exact ⟨fun _ _=>trivial,next _ f _ c hat hk (Stp.refl c) (fh ht hds (e_ c)) (by rw [cO]; exact hN) (by rw [bK]; exact hd) (fun _ _ _ h=>h) hfr⟩
    ·exact hat.elim
   ·exact hat.elim
theorem uU {P:Program} {rr:Option Nat} (hm:P.follows .mixedOrders=true) {id ne N i:Nat} {ops:Array Oper} (hok:sS ops i=true) (hdst:∀o∈ops.toList,∀d,o.dst=some d→d<N) {c0:Cx} {K:St→Prop} {Q:Exit→Act→World→Prop}
 (hQ:∀s a w,K s→mY c0 ne N s a w→Q .normal a w) {s:St} {a:Act} {w:World} (h:du P false true (ops.extract 0 i) s.n (fun s'=>du P false false ops 0 K i (ops.toList.drop i) s'.t s'.f s'.n) 0 (ops.toList.take i) s.t s.f (s.n+i)) (hs:mY c0 ne N s a w):(Code.region id ops true).wpIn (Fr rr) 0 P Q a w:=by
 unfold sS at hok
 simp only [Bool.and_eq_true] at hok
 obtain ⟨⟨hlA,hlex⟩,hrow⟩:=hok
 have hi:=(jk hrow).1
 have hAsz:(ops.extract 0 i).size=i:=by rw [Array.size_extract]; omega
 obtain ⟨c,rfl,hk,hfr,ht,hN,hd,hst,h0,hne⟩:=hs
 refine wpIn_region_any hm ?_
 have hany:=nJ hlA (ops.toList.take i) 0 (Array.replicate i false) s.t s.f (fun j=>by
  rw [Nat.zero_add]
  rcases Nat.lt_or_ge j i with h'|h'
  ·rw [vU h' hi,List.getElem?_take_of_lt h']; simp
  ·rw [List.getElem?_take_eq_none h',Array.getElem?_eq_none (by omega)]) (by simp [hAsz]) (fun j hj=>by rw [hAsz] at hj; simp [hj]) (fun j hj _=>(hfr _).2 (by omega)) h
 rw [show (ops.toList.take i).length=i by rw [List.length_take]; simp; omega] at hany
 have:=Az (rr:=rr) (Q:=Q) (N:=N) (c0:=c0) hlex hrow hdst (Nat.le_refl _) (fun t f l a c hK hu hk hfr ht hN hd hs=>by
  have:=wW (rr:=rr) hlex hrow hdst hQ (ops.toList.drop i) i l t _ _ a (c.past (s.n+i)) (Nat.le_refl _) (fun j=>by rw [List.getElem?_drop]; simp) hu hK (hk.past hfr) (iT hfr) (fun k=>(ht k).keep (Stp.past c _) hk.shut) hN (hd.keep (Stp.past c _)) (hs.trans (Stp.past c _)) h0 (show ne≤s.n+i by omega)
  rw [show (ops.toList.drop i).length=ops.size-i by simp] at this
  exact this) i (Array.replicate i false) (Array.replicate ops.size false) s.t s.f a c.drew hany ⟨by simp,by simp,fun j hj=>by simp [hj,show j<ops.size by omega],fun j hj hj2=>by simp [hj2]⟩ (fun j hj=>by rw [Array.getD_eq_getD_getElem?,Array.getElem?_replicate] at hj; split at hj<;>simp at hj) hk.drew (fun j hj=>(hfr j).2 (by omega)) (fun j hj _=>(hfr _).2 (by omega)) (fun k=>(ht k).keep (Stp.drew c) hk.shut) hN (hd.keep (Stp.drew c)) (hst.trans (Stp.drew c))
 rw [show i+(ops.size-i)=ops.size by omega] at this
 exact this
inductive AEx where
 | normal
 | exit (id:Nat)
 | ret
mutual
def fg (n:Nat):AV→Bool
 | .own _ id _ _=>decide (id<n)
 | .ptr id _ _=>decide (id<n)
 | .agg cs=>cloTL n cs
 | .tup cs=>cloTL n cs
 | .sl _ _ l=>cloTL n l
 | .rp cs=>cloTL n cs
 | .fn _ fs cap=>cloTL n fs && cloTL n cap
 | .yld id=>decide (id<n)
 | .mp id=>decide (id<n)
 | _=>true
def cloTL (n:Nat):List AV→Bool
 | []=>true
 | a::l=>fg n a && cloTL n l
end
mutual
theorem tz {n:Nat}:∀a:AV,fg n a=true→clo n a
 | .own _ id _ _,h=>by simpa [fg,clo] using h
 | .ptr id _ _,h=>by simpa [fg,clo] using h
 | .agg cs,h=>by simp only [clo]; exact cloTL_clo cs (by simpa only [fg] using h)
 | .tup cs,h=>by simp only [clo]; exact cloTL_clo cs (by simpa only [fg] using h)
 | .sl _ _ l,h=>by simp only [clo]; exact cloTL_clo l (by simpa only [fg] using h)
 | .rp cs,h=>by simp only [clo]; exact cloTL_clo cs (by simpa only [fg] using h)
 | .fn _ fs cap,h=>by
  simp only [fg,Bool.and_eq_true] at h
  simp only [clo]; exact ⟨cloTL_clo fs h.1,cloTL_clo cap h.2⟩
 | .yld id,h=>by simpa [fg,clo] using h
 | .mp id,h=>by simpa [fg,clo] using h
 | .any,_=>by simp only [clo]
 | .bool _,_=>by simp only [clo]
 | .int _ _,_=>by simp only [clo]
 | .str _,_=>by simp only [clo]
 | .nilp,_=>by simp only [clo]
theorem cloTL_clo {n:Nat}:∀l:List AV,cloTL n l=true→cloL n l
 | [],_=>by simp only [cloL]
 | a::l,h=>by
  simp only [cloTL,Bool.and_eq_true] at h
  simp only [cloL]; exact ⟨tz a h.1,cloTL_clo l h.2⟩
end
def cl (n:Nat) (a:AV):AV:=bif fg n a then a else .any
def cut (n:Nat) (t:Nat→AV):Nat→AV:=fun k=>cl n (t k)
theorem Gs (n:Nat) (a:AV):clo n (cl n a):=by
 unfold cl
 cases h:fg n a with
 | true=>exact tz a h
 | false=>simp only [cond_false,clo]
theorem JO {c:Cx} {n:Nat} {a:AV} {v:Value} (h:Rv c a v):Rv c (cl n a) v:=by
 unfold cl
 cases fg n a with
 | true=>exact h
 | false=>simp only [cond_false,Rv]
def eg (r:Loop):Loop:={ r with state := .busy }
def bv (r:Loop):AEx→Loop
 | .normal=>r
 | .ret=>{ r with state := .done,pending:=some .ret }
 | .exit i=>{ r with state := .done,pending:=some (.exit i) }
def AEx.goes:AEx→Bool
 | .normal=>true
 | _=>false
def sF (t:Nat→AV):List Nat→List AV→Nat→AV
 | p::ps,v::vs=>sF (ar t p v) ps vs
 | _,_=>t
def vC (P:Program) (g:FuncId):Prop:=∃fn c,P.funcs[g]?=some fn∧fn.body=some c∧(fn.name == "runtime.NumGoroutine")=false
def nH (P:Program) (nr len:Nat) (t:Nat→AV) (r:Loop) (wpA wpB:Nat→(AEx→St→Prop)→St→Prop) (ps:List Nat):Prop :=
 ∀(vs:List AV) (f:Nat→BS) (n:Nat) (K:AV→(Nat→BS)→Nat→Prop),vs.length=len→f nr = .obj (.loop r) t→nr<n →
  wpA n (fun e s1=>e = .normal∧s1.f nr = .obj (.loop r) t ∧
   wpB n (fun e s2=>s2.f nr = .obj (.loop (eg r)) t∧K (.bool e.goes) (ar s2.f nr (.obj (.loop (bv r e)) t)) s2.n) ⟨s1.t,ar s1.f nr (.obj (.loop (eg r)) t),s1.n⟩) ⟨sF t ps vs,f,n⟩→YA P nr vs f n K
def gE (P : Program) (z : Bool) (ne : Nat) : Code → (AEx → St → Prop) → St → Prop
  | .skip, Q, s => Q .normal s
  | .label _, Q, s => Q .normal s
  | .region _ ops draw, Q, s => bif draw && z then (fP (!fP false ops) ops = true ∧ du P (!fP false ops) true ops s.n (Q .normal) 0 ops.toList s.t s.f (s.n + ops.size)) ∨ ((∀ j, s.n ≤ j → s.f j = .fresh) → dY P false ops s.n (s.n + ops.size) (fun t f => Q .normal ⟨t, dB (s.n + ops.size) f, s.n + ops.size⟩) ops.size (Array.replicate ops.size false) s.t s.f) ∨
        ∃ i, sS ops i = true ∧ du P false true (ops.extract 0 i) s.n (fun s' => du P false false ops 0 (Q .normal) i (ops.toList.drop i) s'.t s'.f s'.n) 0 (ops.toList.take i) s.t s.f (s.n + i)
      else du P false draw ops s.n (Q .normal) 0 ops.toList s.t s.f (bif draw then s.n + ops.size else s.n)
  | .seq a b, Q, s => gE P z ne a (fun e s' => match e with | .normal => gE P z ne b Q s' | e => Q e s') s
  | .cond c x y, Q, s => match a_ s.t c with
    | .bool b => (b = true → gE P z ne x Q s) ∧ (b = false → gE P z ne y Q s)
    | _ => False
  | .block id c, Q, s => gE P z ne c (fun e s' => match e with | .exit i => if i = id then Q .normal s' else Q (.exit i) s' | e => Q e s') s
  | .loop c, Q, s => ∃ (α : Type) (st : α → St) (m : α → Nat) (x0 : α), le ne s (st x0) ∧ ∀ x, gE P z ne c (fun e s' => match e with | .normal => ∃ y, le ne s' (st y) ∧ m y < m x | e => Q e s') (st x)
  | .scope c, Q, s => gE P z ne c Q s
  | .exit id, Q, s => Q (.exit id) s
  | .ret, Q, s => Q .ret s
  | .rangeFunc g ps assign body, Q, s => match a_ s.t g with
    | .fn (.func gf) fs cap => vC P gf ∧ ∀ r : Loop, nH P s.n ps.size (cut s.n s.t) r (fun n => gE P z n assign) (fun n => gE P z n body) ps.toList →
        CA P gf (fs ++ [.yld s.n] ++ cap) (ar s.f s.n (.obj (.loop r) (cut s.n s.t))) (s.n + 1) fun _ f' n' => ∃ e, f' s.n = .obj (.loop (bv r e)) (cut s.n s.t) ∧ Q e ⟨s.t, ar f' s.n .dead, n'⟩
    | _ => False
  | _, _, _ => False
def bF (rr z:Bool) (N:Nat):Code→Bool
 | .region _ ops draw=>(ops.toList.all fun o=>match o.dst with|some d=>decide (d<N)|none=>true) && (!draw || z || fP z ops)
 | .seq a b=>bF rr z N a && bF rr z N b
 | .cond _ a b=>bF rr z N a && bF rr z N b
 | .block _ a=>bF rr z N a
 | .loop a=>bF rr z N a
 | .scope a=>bF rr z N a
 | .rangeFunc _ ps a b => !rr && (ps.toList.all fun p=>decide (p<N)) && bF true z N a && bF true z N b
 | _=>true
def fM (z:Bool) (N:Nat) (c:Code):Bool:=bF false z N c
def QR (c0:Cx) (ne N:Nat) (Q:AEx→St→Prop):Exit→Act→World→Prop
 | .normal,a,w=>∃s,Q .normal s∧mY c0 ne N s a w
 | .exit i,a,w=>∃s,Q (.exit i) s∧mY c0 ne N s a w
 | .ret,a,w=>∃s,Q .ret s∧mY c0 ne N s a w
 | _,_,_=>False
theorem pV {F:Fence} {n:Nat} {P:Program} {c:Code} {Q:Exit→Act→World→Prop} {a:Act} {w:World} {α:Type} (I:α→Act→World→Prop) (μ:α→Nat) (x0:α) (h₀:I x0 a w)
 (round:∀x a w,I x a w→c.wpIn F n P (Exit.then (fun a' w'=>∃y,I y a' w'∧μ y<μ x) Q) a w):(Code.loop c).wpIn F n P Q a w:=by
 intro b k cs hro hb hr
 have key:∀j x a w,μ x=j→I x a w →
  ∃e a' w',Q e a' w'∧ArrivesIn (Machine.fenced P F) P (lone (b.atR a (.code c :: .inLoop c::k)) cs w) b k cs e a' w':=by
  intro j
  induction j using Nat.strongRecOn with
  | _ j ih =>
   intro x a w hn hI
   obtain ⟨e,a₁,w₁,hq,harr⟩:=round x a w hI b (.inLoop c::k) cs hro hb hr
   cases e with
   | normal =>
    obtain ⟨y,hI₁,hlt⟩:=hq
    obtain ⟨e₂,a₂,w₂,hq₂,harr₂⟩:=ih (μ y) (hn▸hlt) y a₁ w₁ rfl hI₁
    exact ⟨e₂,a₂,w₂,hq₂,.of_steps (StepsIn.trans harr (.one (fenced_calm hb hr rfl) stepR_inLoop)) harr₂⟩
   | exit id=>exact ⟨_,a₁,w₁,hq,.pass (x := .inLoop c) rfl (fun _ _ => .inl (by simp)) harr⟩
   | goto l=>exact ⟨_,a₁,w₁,hq,.pass (x := .inLoop c) rfl (fun _ _ => .inl (by simp)) harr⟩
   | ret=>exact ⟨_,a₁,w₁,hq,.pass (x := .inLoop c) rfl (fun _ _ => .inl (by simp)) harr⟩
   | panic ch=>exact ⟨_,a₁,w₁,hq,.pass (x := .inLoop c) rfl (fun _ _ => .inl (by simp)) harr⟩
   | outgrown=>exact ⟨_,a₁,w₁,hq,.pass (x := .inLoop c) rfl (fun _ _ => .inl (by simp)) harr⟩
 obtain ⟨e,a',w',hq,harr⟩:=key _ x0 a w rfl h₀
 exact ⟨e,a',w',hq,.of_steps (.one (fenced_calm hb hr rfl) stepR_loop) harr⟩
theorem yx {c:Cx}:∀(ps:List Nat) (vs:List AV) (us:List Value) (t:Nat→AV) (tmps:Array Value),Rl c vs us→(∀p∈ps,p<tmps.size)→(∀k,Rv c (t k) (tmps.getD k undef)) →
 (∀k,Rv c (sF t ps vs k) (((ps.zip us).foldl (fun tmps (p:Nat×Value)=>tmps.setIfInBounds p.1 p.2) tmps).getD k undef))∧((ps.zip us).foldl (fun tmps (p:Nat×Value)=>tmps.setIfInBounds p.1 p.2) tmps).size=tmps.size
 | [],vs,us,t,tmps,_,_,h=>by cases vs<;>exact ⟨by simpa [sF] using h,rfl⟩
 | p::ps,[],us,t,tmps,hl,_,h=>by
  simp only [Rl] at hl; subst hl
  exact ⟨by simpa [sF] using h,rfl⟩
 | p::ps,v::vs,us,t,tmps,hl,hp,h=>by
  simp only [Rl] at hl
  obtain ⟨u,r,rfl,h1,h2⟩:=hl
  have hlt:=hp p (by simp)
  have:=yx ps vs r (ar t p v) (tmps.setIfInBounds p u) h2 (fun q hq=>by simpa using hp q (by simp [hq])) (fun k=>by
   by_cases hk:k=p
   ·subst hk; rw [ah]; simpa [Array.getElem?_setIfInBounds,hlt] using h1
   ·rw [ac _ _ _ hk]
    have:=h k
    simpa [Array.getElem?_setIfInBounds_ne (Ne.symm hk)] using this)
  exact ⟨by simpa only [sF,List.zip_cons_cons,List.foldl_cons] using this.1,by simpa only [List.zip_cons_cons,List.foldl_cons,Array.size_setIfInBounds] using this.2⟩
open Go
set_option linter.unusedSimpArgs false
set_option linter.unusedVariables false
theorem D7 (l:Nat):Fr (some l)=Fence.wide.inRound l:=rfl
theorem xT:Fr none=Fence.wide:=rfl
def H4 (P:Program) (z:Bool) (c:Code):Prop :=
 ∀(rr:Option Nat) (c0:Cx) (ne N:Nat) (Q:AEx→St→Prop) (s:St) (a:Act) (w:World),bF rr.isSome z N c=true→gE P z ne c Q s→mY c0 ne N s a w→c.wpIn (Fr rr) 0 P (QR c0 ne N Q) a w
theorem Av (c:Cx) (o:Obj):Stp c { c with w:=c.w.alloc o } where
 os:=rfl
 tape:=rfl
 output:=rfl
 size:=by simp
 keep:=fun b hb _=>Go.RowKit.Below.heap_alloc _ _ _ hb
 U:=fun _ h=>h
 mu:=fun _ _ => .inl rfl
 new:=fun id e h hr => .inr ⟨id,e,h,hr,rfl⟩
 F:=fun _ _=>⟨fun h=>h,fun _ h=>h⟩
theorem rP {c:Cx} {f:Nat→BS} {n:Nat} (hk:HOk c f) (hfull:∀j,f j = .fresh↔n≤j):∀j,c.U j→j<n:=fun j hj=>by
 rcases Nat.lt_or_ge j n with h|h
 ·exact h
 ·exact absurd ((hfull j).2 h) ((hk.used j).1 hj)
theorem pB {f:Nat→BS} {n id:Nat} {b:BS} (hb:b ≠ .fresh) (hid:id<n) (hfull:∀j,f j = .fresh↔n≤j):∀j,ar f id b j = .fresh↔n≤j:=fun j=>by
 by_cases hj:j=id
 ·subst hj; rw [ah]; exact ⟨fun h=>absurd h hb,fun h=>by omega⟩
 ·rw [ac _ _ _ hj]; exact hfull j
theorem uN {P:Program} {z:Bool} {assign body:Code} (ia:H4 P z assign) (ib:H4 P z body) {N:Nat} (oka:bF true z N assign=true) (okb:bF true z N body=true) {nr:Nat} {t:Nat→AV} {r:Loop} {ps:Array Tmp} (hps:∀p∈ps.toList,p<N)
 (h1:r.state = .ready) (h2:r.pending=none) (h3:r.tmps.size=N) (h4:r.params=ps) (h5:r.assign=assign) (h6:r.body=body):nH P nr ps.size t r (fun n=>gE P z n assign) (fun n=>gE P z n body) ps.toList:=by
 intro vs f n K hlen hf hlt h c us l hk hfull hl hU hmu
 obtain ⟨e,oo,he,hr,hsz,hb,hS,hobj,htm,hcl⟩:=hk.obj nr _ _ hf
 simp only [kj] at hS; subst hS
 obtain ⟨_,rfl⟩:=hmu e he
 have hul:=hl.length
 have hy:=run_yield (P:=P) (args:=us.toArray) hobj (by rw [h4]; simp [hul,hlen])
 refine ⟨_,_,_,_,hy,?_⟩
 rw [h4,h5,h6]
 have hput:=yx ps.toList vs us t r.tmps hl (fun p hp=>by rw [h3]; exact hps p hp) (fun k=>by simpa [fu] using htm k)
 have hfold:(ps.zip us.toArray).foldl (fun tmps (x:Nat×Value)=>tmps.setIfInBounds x.1 x.2) r.tmps=(ps.toList.zip us).foldl (fun tmps (p:Nat×Value)=>tmps.setIfInBounds p.1 p.2) r.tmps:=by
  rw [←Array.foldl_toList,Array.toList_zip]
 have hsat:mY c n N ⟨sF t ps.toList vs,f,n⟩ { tmps:=(ps.zip us.toArray).foldl (fun tmps (x:Nat×Value)=>tmps.setIfInBounds x.1 x.2) r.tmps,defers:=[] } c.w:=by
  rw [hfold]
  exact ⟨c,rfl,hk,hfull,hput.1,by simp only; rw [hput.2]; exact h3,trivial,Stp.refl c,rP hk hfull,Nat.le_refl _⟩
 refine roundIn_of_wpIn (F:=Fence.wide) trivial ?_
 rw [←D7]
 refine wpIn_mono (ia (some e.block) c n N _ _ _ _ oka h hsat) fun x a1 w1 hq=>?_
 have only:∀ {x:AEx} {s1:St} {p:Prop},x = .normal∧p→x = .normal:=fun h=>h.1
 cases x<;>simp only [QR] at hq<;>simp only [Exit.then]
 case exit i=>obtain ⟨s1,⟨h,_⟩,_⟩:=hq; cases h
 case ret=>obtain ⟨s1,⟨h,_⟩,_⟩:=hq; cases h
 obtain ⟨s1,⟨_,hf1,hbody⟩,c1,rfl,hk1,hfull1,ht1,hN1,hd1,hs1,h01,hne1⟩:=hq
 obtain ⟨e1,oo1,he1,hr1,_,_,hS1,hobj1,htm1,_⟩:=hk1.obj nr _ _ hf1
 simp only [kj] at hS1; subst hS1
 have hee:e1=e:=by
  rcases hs1.mu nr hU with h|h
  ·rw [h,he] at he1; exact (Option.some.inj he1).symm
  ·rw [h] at he1; cases he1
 subst hee
 obtain ⟨hk2,hs2⟩:=kZ hk1 hf1 he1 hr1 (.loop (eg r)) t (by simpa [fu,eg] using htm1) hcl
 refine ⟨_,run_beginRound hobj1 h1,?_⟩
 have hsat2:mY c n N ⟨s1.t,ar s1.f nr (.obj (.loop (eg r)) t),s1.n⟩ a1 (c1.w.putObj e1.block (.loop { r with state := .busy })):=by
  refine ⟨c1.obj e1.block (.loop (eg r)),rfl,hk2,pB (n:=s1.n) (by simp) (by omega) hfull1,fun k=>(ht1 k).keep hs2 hk1.shut,hN1,hd1.keep hs2,hs1.trans hs2,h01,hne1⟩
 refine wpIn_mono (ib (some e1.block) c n N _ _ _ _ okb hbody hsat2) fun x a2 w2 hq=>?_
 have fin:∀(ex:AEx) (jump:Option Code) (s2:St),(s2.f nr = .obj (.loop (eg r)) t∧K (.bool ex.goes) (ar s2.f nr (.obj (.loop (bv r ex)) t)) s2.n)→mY c n N s2 a2 w2 →
  (bv r ex={ eg r with state:=if jump.isNone then .ready else .done,pending:=jump })→jump.isNone=ex.goes →
  ∃v w',(Instr.endRound e1.block jump).run P w2 = .ok v w'∧∃v',Ending.returned v = .returned v'∧∃c' r' f' n',c'.w=w'∧K r' f' n'∧HOk c' f'∧Rv c' r' v'∧Stp c c'∧n≤n'∧∀j,f' j = .fresh↔n'≤j:=by
  rintro ex jump s2 ⟨hf2,hK⟩ ⟨c2,rfl,hk2',hfull2,ht2,hN2,hd2,hs2',h02,hne2⟩ haft hgo
  obtain ⟨e2,oo2,he2,hr2,_,_,hS2,hobj2,htm2,_⟩:=hk2'.obj nr _ _ hf2
  simp only [kj] at hS2; subst hS2
  have hee:e2=e1:=by
   rcases hs2'.mu nr hU with h|h
   ·rw [h,he] at he2; exact (Option.some.inj he2).symm
   ·rw [h] at he2; cases he2
  subst hee
  obtain ⟨hk3,hs3⟩:=kZ hk2' hf2 he2 hr2 (.loop (bv r ex)) t (by
   have:(bv r ex).tmps=r.tmps:=by cases ex<;>rfl
   simpa [fu,eg,this] using htm2) hcl
  refine ⟨_,_,run_endRound jump hobj2,_,rfl,c2.obj e2.block (.loop (bv r ex)),_,_,s2.n,?_,hK,hk3,?_,hs2'.trans hs3,hne2,pB (n:=s2.n) (by simp) (by omega) hfull2⟩
  ·rw [haft]; rfl
  ·rw [hgo]; simp only [Rv]
 cases x<;>simp only [QR] at hq<;>simp only [roundPost]
 case normal =>
  obtain ⟨s2,g1,g2⟩:=hq
  exact fin .normal none s2 g1 g2 (by
   obtain ⟨a,b⟩:r.state = .ready∧r.pending=none:=⟨h1,h2⟩
   cases r; simp only [bv,eg] at *; subst a; subst b; rfl) rfl
 case ret=>obtain ⟨s2,g1,g2⟩:=hq; exact fin .ret (some .ret) s2 g1 g2 rfl rfl
 case exit i=>obtain ⟨s2,g1,g2⟩:=hq; exact fin (.exit i) (some (.exit i)) s2 g1 g2 rfl rfl
theorem uC {P:Program} {z:Bool} {assign body:Code} (ia:H4 P z assign) (ib:H4 P z body) (g:Operand) (ps:Array Tmp):H4 P z (.rangeFunc g ps assign body):=by
 intro rr c0 ne N Q s a w hok h hs
 simp only [bF,Bool.and_eq_true,Bool.not_eq_true',List.all_eq_true] at hok
 obtain ⟨⟨⟨hro,hps⟩,oka⟩,okb⟩:=hok
 have hrr:rr=none:=by cases rr<;>simp_all
 subst hrr
 simp only [gE] at h
 split at h
 ·rename_i gf fs cap hg
  obtain ⟨⟨fn0,c00,hf0,hb0,hn0⟩,h⟩:=h
  obtain ⟨c,rfl,hk,hfull,ht,hN,hd,hst,h0,hne⟩:=hs
  have hev:=jV ht g
  rw [hg] at hev
  simp only [Rv] at hev
  obtain ⟨fa,ca,hev,hfa,hca⟩:=hev
  refine wpIn_rangeFunc fun fnn _=>?_
  obtain ⟨r,hr⟩:∃r:Loop,r={ state := .ready,pending:=none,fn:=fnn,tmps:=a.tmps,params:=ps,assign,body,defers:=c.w.heap.size }:=⟨_,rfl⟩
  have hs1:Stp c { c with w:=c.w.alloc (.deferred (some [])) }:=Av c _
  have hk1:HOk { c with w:=c.w.alloc (.deferred (some [])) } s.f:=hk.of_step hs1 (fun _=>Iff.rfl) rfl hk.shut (fun id e he hr=>Go.RowKit.Below.heap_alloc _ _ _ (hk.lt he hr))
  have hfresh:s.f s.n = .fresh:=(hfull s.n).2 (Nat.le_refl _)
  have hk2:=sv hk1 hfresh (.loop r) (cut s.n s.t) (fun k=>by rw [hr]; exact JO ((ht k).keep hs1 hk.shut)) (fun k=>Gs _ _)
  have hs2:=Stp.more hk1 hfresh (.loop r) 0 0
  obtain ⟨c2,hc2⟩:∃c2,c2=Cx.more { c with w:=c.w.alloc (.deferred (some [])) } s.n (.loop r) ⟨true,(c.w.alloc (.deferred (some []))).heap.size,0,0,0⟩:=⟨_,rfl⟩
  rw [←hc2] at hk2 hs2
  have hst2:Stp c c2:=hs1.trans hs2
  have hw2:c2.w=(c.w.alloc (.deferred (some []))).alloc (.loop r):=by rw [hc2]; rfl
  have hmu2:c2.mu s.n=some ⟨true,c.w.heap.size+1,0,0,0⟩:=by
   rw [hc2]
   have:(c.w.alloc (.deferred (some []))).heap.size=c.w.heap.size+1:=by simp
   simp only [Cx.more,ah,this]
  have hU2:c2.U s.n:=by rw [hc2]; exact .inr rfl
  have hD2:c2.w.heap[c.w.heap.size]?=some (.deferred (some [])):=by
   rw [hw2]; exact (Go.RowKit.Below.heap_alloc _ _ _ (by simp)).trans (World.alloc_heap_new c.w _)
  have hDown:∀id e,c2.mu id=some e→e.real=true→e.block≠c.w.heap.size:=by
   intro id e he hre hb
   rcases hst2.new id e he hre with h1|⟨j,e',hj,hr',hb'⟩
   ·by_cases hid:id=s.n
    ·subst hid; rw [hmu2] at he; injection he with he; subst he; simp at hb
    ·have:c.mu id=some e:=by
      rw [hc2] at he
      simp only [Cx.more] at he
      rwa [ac _ _ _ hid] at he
     have:=hk.lt this hre
     omega
   ·have:=hk.lt hj hr'; omega
  have hmarks:cU c2 c0.w.heap.size ({ target := .collected c.w.heap.size,args := #[] }::a.defers):=by
   refine ⟨⟨c.w.heap.size,rfl,hst.size,hD2,hDown⟩,fun hmem=>?_,hd.keep hst2⟩
   have:∀(ds:List Deferred),cU c c0.w.heap.size ds→({ target := .collected c.w.heap.size,args := #[] }:Deferred) ∉ ds:=by
    intro ds
    induction ds with
    | nil=>intro _ h; cases h
    | cons d ds ih =>
     rintro ⟨⟨D,hD,_,h3,_⟩,_,h6⟩ hm
     rcases List.mem_cons.1 hm with h7|h7
     ·rw [hD] at h7
      have h8:c.w.heap.size=D:=by injection h7 with h7 _; injection h7
      have:=(Array.getElem?_eq_some_iff.1 h3).1
      omega
     ·exact ih h6 h7
   exact this _ hd hmem
  have hround:nH P s.n ps.size (cut s.n s.t) r (fun n=>gE P z n assign) (fun n=>gE P z n body) ps.toList :=
   uN ia ib oka okb (fun p hp=>by simpa using hps p hp) (by rw [hr]) (by rw [hr]) (by rw [hr]; exact hN) (by rw [hr]) (by rw [hr]) (by rw [hr])
  have hca2:=h r hround
  have hfull2:∀j,ar s.f s.n (.obj (.loop r) (cut s.n s.t)) j = .fresh↔s.n+1≤j:=by
   intro j
   by_cases hj:j=s.n
   ·subst hj; rw [ah]; simp
   ·rw [ac _ _ _ hj,hfull j]; omega
  have hargs:Rl c2 (fs++[.yld s.n]++cap) (fa.toList++[Value.func (.yield (c.w.heap.size+1)) #[] #[]]++ca.toList):=by
   refine Rl.append (Rl.append (hfa.keep hst2 hk.shut) ?_) (hca.keep hst2 hk.shut)
   simp only [Rl,Rv]
   exact ⟨_,_,rfl,⟨hU2,_,rfl,fun e he=>by rw [hmu2] at he; injection he with he; subst he; exact ⟨rfl,rfl⟩⟩,rfl⟩
  have hcall:=hca2 c2 _ hk2 hfull2 hargs
  have henter:∀args w,(callFunc gf args).run P w = .ok (.enter gf args) w:=fun args w=>by
   unfold callFunc
   simp only [Sem.run_bind,run_program,Result.andThen_ok,hf0,hn0,Bool.false_eq_true,if_false,hb0,Option.isNone_some,Sem.run_pure]
  unfold bZ at hcall
  rw [henter] at hcall
  simp only at hcall
  refine ⟨c.w.heap.size+1,[{ target := .collected c.w.heap.size,args := #[] }],c2.w,{ target := .fn (.func gf) ca,args:=fa ++ #[Value.func (.yield (c.w.heap.size+1)) #[] #[]] },c2.w,gf,
   fa ++ #[Value.func (.yield (c.w.heap.size+1)) #[] #[]]++ca,c2.w,?_,?_,fun _ _=>trivial,?_,oq,?_⟩
  ·rw [hw2,hr]; exact run_enterLoop_outer _ _ _ _ _
  ·simp only [resolve,rangeCall,Sem.run_bind,hev,Deferred.ofValue,Sem.run_pure,Result.andThen_ok]
   simp [Act.eval]
  ·simp only [invoke]; exact henter _ _
  ·have harr:(fa.toList++[Value.func (.yield (c.w.heap.size+1)) #[] #[]]++ca.toList).toArray=fa ++ #[Value.func (.yield (c.w.heap.size+1)) #[] #[]]++ca:=by
    apply Array.ext'; simp
   rw [harr] at hcall
   refine nP (hcall.mono ?_)
   rintro ex w' ⟨v,rfl,c3,r3,f3,n3,rfl,⟨ex,hf3,hQ⟩,hk3,_,hs3,hn3,hfull3⟩
   obtain ⟨e3,oo3,he3,hr3,_,_,hS3,hobj3,htm3,hcl3⟩:=hk3.obj s.n _ _ hf3
   simp only [kj] at hS3; subst hS3
   have hee:e3=⟨true,c.w.heap.size+1,0,0,0⟩:=by
    rcases hs3.mu s.n hU2 with h|h
    ·rw [h,hmu2] at he3; exact (Option.some.inj he3).symm
    ·rw [h] at he3; cases he3
   subst hee
   have hready:(bv r ex).state ≠ .busy:=by cases ex<;>simp [bv,hr]
   obtain ⟨hk4,hs4⟩:=kZ hk3 hf3 he3 hr3 (.loop { bv r ex with state := .exhausted }) (cut s.n s.t) (by simpa [fu] using htm3) hcl3
   have hk5:=hk4.kill (id:=s.n) (by rw [ah]; simp)
   have hupd:ar (ar f3 s.n (.obj (.loop { bv r ex with state := .exhausted }) (cut s.n s.t))) s.n .dead=ar f3 s.n .dead:=by
    funext j; unfold ar; split<;>rfl
   rw [hupd] at hk5
   have hs5:=Stp.kill (c3.obj (c.w.heap.size+1) (.loop { bv r ex with state := .exhausted })) s.n
   have hs6:=(hs3.trans hs4).trans hs5
   have hsat:mY c0 ne N ⟨s.t,ar f3 s.n .dead,n3⟩ { a with defers:=[{ target := .collected c.w.heap.size,args := #[] }]++a.defers } (c3.w.putObj (c.w.heap.size+1) (.loop { bv r ex with state := .exhausted })):=by
    refine ⟨_,rfl,hk5,pB (n:=n3) (by simp) (by omega) hfull3,fun k=>(ht k).keep (hst2.trans hs6) hk.shut,hN,hmarks.keep hs6,hst.trans (hst2.trans hs6),h0,by simp only; omega⟩
   have hend:=run_endLoop (P:=P) hobj3 hready
   have hj:∀(j:Option Code),(bv r ex).pending=j→(Instr.endLoop (c.w.heap.size+1)).run P c3.w = .ok j (c3.w.putObj (c.w.heap.size+1) (.loop { bv r ex with state := .exhausted })):=fun j hj=>by rw [←hj]; exact hend
   cases ex with
   | normal=>exact ⟨none,_,hj none (by simp [bv,hr]),⟨_,hQ,hsat⟩⟩
   | ret=>exact ⟨some .ret,_,hj _ rfl,wpIn_ret ⟨_,hQ,hsat⟩⟩
   | exit i=>exact ⟨some (.exit i),_,hj _ rfl,wpIn_exit ⟨_,hQ,hsat⟩⟩
 ·exact h.elim
theorem dV {P:Program} {b:Frame} {a:Act} {k:List Item} {cs:List Frame} {w:World} {c:Code}:step P (lone (b.atR a (.code (.scope c)::k)) cs w) = .next (lone (b.atR a (.code c :: .inScope c::k)) cs w) :=
 step_lone_go (by simp [stepG,stepG.exec,Frame.atR])
theorem pS {P:Program} {b:Frame} {a:Act} {k:List Item} {cs:List Frame} {w:World} {c:Code}:step P (lone (b.atR a (.inScope c::k)) cs w) = .next (lone (b.atR a k) cs w) :=
 step_lone_go (by simp [stepG,stepG.exec,Frame.atR])
theorem xA {F:Fence} {n:Nat} {P:Program} {Q:Exit→Act→World→Prop} {a:Act} {w:World} {c:Code} (hg:∀l a w,¬Q (.goto l) a w) (h:c.wpIn F n P Q a w):(Code.scope c).wpIn F n P Q a w:=by
 intro b k cs hro hb hr
 have h0:(lone (b.atR a (.code (.scope c)::k)) cs w).fenced P F:=fenced_calm hb hr rfl
 obtain ⟨e,a₁,w₁,hq,harr⟩:=h b (.inScope c::k) cs hro hb hr
 cases e with
 | normal=>exact ⟨.normal,a₁,w₁,hq,.head h0 dV (StepsIn.trans harr (.one (fenced_calm hb hr rfl) pS))⟩
 | exit id =>
  have hx:exitTo id (.inScope c::k)=exitTo id k:=by simp [exitTo]
  exact ⟨.exit id,a₁,w₁,hq,fun k' hk => .head h0 dV (harr.1 k' (by rw [hx]; exact hk)),fun hr' hk=>let ⟨k₁,h1,h2⟩:=harr.2 hr' (by rw [hx]; exact hk); ⟨k₁,h1,.head h0 dV h2⟩⟩
 | goto l=>exact absurd hq (hg l _ _)
 | ret=>exact ⟨_,a₁,w₁,hq,.of_steps (.one h0 dV) harr⟩
 | panic ch=>exact ⟨_,a₁,w₁,hq,.of_steps (.one h0 dV) harr⟩
 | outgrown=>exact ⟨_,a₁,w₁,hq,.of_steps (.one h0 dV) harr⟩
theorem lJ {P:Program} {z:Bool} (hm:P.follows .mixedOrders=true):∀(c:Code),H4 P z c:=by
 intro c
 induction c with
 | skip=>intro rr c0 ne N Q s a w _ h hs; exact wpIn_skip ⟨s,h,hs⟩
 | label l=>intro rr c0 ne N Q s a w _ h hs; exact wpIn_label ⟨s,h,hs⟩
 | exit i=>intro rr c0 ne N Q s a w _ h hs; exact wpIn_exit ⟨s,h,hs⟩
 | ret=>intro rr c0 ne N Q s a w _ h hs; exact wpIn_ret ⟨s,h,hs⟩
 | rangeFunc g ps assign body ia ib=>exact uC ia ib g ps
 | region id ops draw =>
  intro rr c0 ne N Q s a w hok h hs
  simp only [bF,Bool.and_eq_true,List.all_eq_true] at hok
  have hdst:∀o∈ops.toList,∀d,o.dst=some d→d<N:=fun o ho d hd=>by
   have:=hok.1 o ho
   rw [hd] at this
   simpa using this
  cases draw with
  | false =>
   obtain ⟨c,rfl,hk,hfr,ht,hN,hd,hst,h0,hne⟩:=hs
   refine wpIn_region_list ?_
   simp only [gE] at h
   exact vz (c0:=c0) (ne:=ne) (N:=N) (fun s a w hK hS=>⟨s,hK,hS⟩) ops.toList 0 s.t s.f s.n a c h hdst hk hfr ht hN hd hst h0 hne
  | true =>
   cases z with
   | false =>
    simp only [gE,Bool.and_false,cond_false,cond_true] at h
    exact nZ hm (by simpa using hok.2) hdst (fun s a w hK hS=>⟨s,hK,hS⟩) h hs
   | true =>
    simp only [gE,Bool.and_true,cond_true] at h
    rcases h with h|h|⟨i,hi,h⟩
    ·exact nZ hm h.1 hdst (fun s a w hK hS=>⟨s,hK,hS⟩) h.2 hs
    ·exact yY hm hdst (fun s a w hK hS=>⟨s,hK,hS⟩) (h (by obtain ⟨c,_,_,hfr,_⟩:=hs; exact fun j hj=>(hfr j).2 hj)) hs
    ·exact uU hm hi hdst (fun s a w hK hS=>⟨s,hK,hS⟩) h hs
 | seq x y ihx ihy =>
  intro rr c0 ne N Q s a w hok h hs
  simp only [bF,Bool.and_eq_true] at hok
  simp only [gE] at h
  refine wpIn_seq (wpIn_mono (ihx rr c0 ne N _ s a w hok.1 h hs) fun e a' w' hq=>?_)
  cases e<;>simp only [QR] at hq<;>simp only [Exit.then]
  case normal=>obtain ⟨s',h1,h2⟩:=hq; exact ihy rr c0 ne N Q s' a' w' hok.2 h1 h2
  all_goals exact hq
 | cond c x y ihx ihy =>
  intro rr c0 ne N Q s a w hok h hs
  simp only [bF,Bool.and_eq_true] at hok
  simp only [gE] at h
  split at h
  ·rename_i b hb
   have hev:a.eval c = .bool b:=by
    obtain ⟨cx,_,_,_,ht,_⟩:=hs
    have:=jV ht c
    rw [hb] at this; simpa only [Rv] using this
   exact wpIn_cond_split hev (fun h1=>ihx rr c0 ne N Q s a w hok.1 (h.1 h1) hs) (fun h1=>ihy rr c0 ne N Q s a w hok.2 (h.2 h1) hs)
  ·exact h.elim
 | scope c ih =>
  intro rr c0 ne N Q s a w hok h hs
  simp only [bF] at hok
  simp only [gE] at h
  exact xA (fun l a w hq=>by simp only [QR] at hq) (ih rr c0 ne N Q s a w hok h hs)
 | block id c ih =>
  intro rr c0 ne N Q s a w hok h hs
  simp only [bF] at hok
  simp only [gE] at h
  refine wpIn_block (wpIn_mono (ih rr c0 ne N _ s a w hok h hs) fun e a' w' hq=>?_)
  cases e<;>simp only [QR] at hq<;>simp only [Exit.inBlock]
  case normal=>exact hq
  case exit i =>
   obtain ⟨s',h1,h2⟩:=hq
   split at h1
   ·rename_i hi; rw [if_pos hi]; exact ⟨s',h1,h2⟩
   ·rename_i hi; rw [if_neg hi]; exact ⟨s',h1,h2⟩
  case ret=>exact hq
 | loop c ih =>
  intro rr c0 ne N Q s a w hok h hs
  simp only [bF] at hok
  simp only [gE] at h
  obtain ⟨α,st,m,x0,hle,hround⟩:=h
  refine pV (fun x a w=>mY c0 ne N (st x) a w) m x0 (hle c0 N a w hs) fun x a' w' hI=>?_
  refine wpIn_mono (ih rr c0 ne N _ (st x) a' w' hok (hround x) hI) fun e a2 w2 hq=>?_
  cases e<;>simp only [QR] at hq<;>simp only [Exit.then]
  case normal =>
   obtain ⟨s',⟨y,h1,h2⟩,h3⟩:=hq
   exact ⟨y,h1 c0 N a2 w2 h3,h2⟩
  all_goals exact hq
 | _=>intro rr c0 ne N Q s a w _ h hs; simp only [gE] at h
def aO (P:Program) (s:St):List ResultVar→(List AV→Prop)→Prop
 | [],K=>K []
 | .tmp t::r,K=>aO P s r fun vs=>K (s.t t::vs)
 | .cell a ty::r,K =>
  match aS P s.f (a_ s.t) (.load ty (.tmp a)) with
  | some (p,v)=>p∧aO P s r fun vs=>K (v::vs)
  | none=>False
def aF (vs:List AV):AV :=
 match vs with
 | [v]=>v
 | vs => .tup vs
def ez (args:List AV):Nat→AV:=fun k=>args.getD k .any
def yC (tmps:Array Value):ResultVar→Sem Value
 | .tmp t=>pure (tmps.getD t undef)
 | .cell a t=>do loadVar t (←asAddr (tmps.getD a undef))
theorem wX (fn:Func) (tmps:Array Value):results fn tmps=(do
 let vs ←fn.results.mapM (yC tmps)
 pure (if h:vs.size=1 then vs[0] else .tuple vs)):=by
 unfold results
 congr 1
theorem Bb {P:Program} {c:Cx} {s:St} {a:Act} (hk:HOk c s.f) (ht:∀k,Rv c (s.t k) (a.tmps.getD k undef)):∀(rs:List ResultVar) (K:List AV→Prop),aO P s rs K →
 ∃l vs,K l∧Rl c l vs∧(rs.mapM (yC a.tmps):Sem (List Value)).run P c.w = .ok vs c.w:=by
 intro rs
 induction rs with
 | nil=>intro K h; exact ⟨[],[],h,by simp [Rl],by simp⟩
 | cons r rs ih =>
  intro K h
  cases r with
  | tmp t =>
   simp only [aO] at h
   obtain ⟨l,vs,h1,h2,h3⟩:=ih _ h
   refine ⟨s.t t::l,a.tmps.getD t undef::vs,h1,?_,?_⟩
   ·simp only [Rl]; exact ⟨_,_,rfl,ht t,h2⟩
   ·simp only [List.mapM_cons,yC,Sem.run_bind,Sem.run_pure,Result.andThen_ok,h3]
  | cell ad t =>
   simp only [aO] at h
   split at h
   ·rename_i p v hv
    obtain ⟨l,vs,h1,h2,h3⟩:=ih _ h.2
    obtain ⟨r,g1,g2⟩:=qV (o:=⟨none,.load t (.tmp ad),0, "", #[],none⟩) hk (jV ht) hv h.1
    refine ⟨v::l,r::vs,h1,?_,?_⟩
    ·simp only [Rl]; exact ⟨_,_,rfl,g2,h2⟩
    ·have hp:∃x,a.tmps.getD ad undef = .pointer (some x):=by
      have:=ht ad
      simp only [aS,a_] at hv
      split at hv
      ·rename_i ti cs hti hta
       rw [hta] at this; simp only [Rv] at this
       obtain ⟨b,o,_,hx,_⟩:=this
       exact ⟨_,hx⟩
      ·rename_i ti id idx off hti hta
       rw [hta] at this; simp only [Rv] at this
       obtain ⟨_,b,o,hx,_⟩:=this
       exact ⟨_,hx⟩
      ·cases hv
     obtain ⟨x,hx⟩:=hp
     have hl:(loadVar t x).run P c.w = .ok r c.w:=by
      simp only [execOp,Act.eval,hx,Instr.loadAt,Instr.sureAddr,Sem.run_bind,Sem.run_pure,Result.andThen_ok] at g1
      cases hlv:(loadVar t x).run P c.w with
      | ok r' w'=>rw [hlv] at g1; simpa using g1
      | halt e w'=>rw [hlv] at g1; simp at g1
     have e1:(asAddr (a.tmps.getD ad undef)).run P c.w = .ok x c.w:=by rw [hx]; rfl
     simp only [List.mapM_cons,yC,Sem.run_bind,e1,Sem.run_pure,Result.andThen_ok,hl,h3]
   ·exact h.elim
theorem mR {P:Program} {c:Cx} {s:St} {a:Act} {fn:Func} (hk:HOk c s.f) (ht:∀k,Rv c (s.t k) (a.tmps.getD k undef)) {K:List AV→Prop} (h:aO P s fn.results.toList K) :
 ∃l v,K l∧Rv c (aF l) v∧(results fn a.tmps).run P c.w = .ok v c.w:=by
 obtain ⟨l,vs,h1,h2,h3⟩:=Bb hk ht fn.results.toList K h
 have hr:(results fn a.tmps).run P c.w = .ok (if h:vs.toArray.size=1 then vs.toArray[0] else .tuple vs.toArray) c.w:=by
  rw [wX,Array.mapM_eq_mapM_toList]
  simp only [Sem.run_bind,Sem.run_map,Result.andThen_ok]
  rw [h3]
  simp only [Result.andThen_ok,Sem.run_pure]
 refine ⟨l,_,h1,?_,hr⟩
 have hlen:=h2.length
 match l,vs,h2,hlen with
 | [],[],_,_=>simp only [aF,Rv]; exact ⟨#[],rfl,by simp [Rl]⟩
 | [x],[v],h2,_ =>
  simp only [Rl] at h2
  obtain ⟨v',r,hv,hr,_⟩:=h2
  simp only [List.cons.injEq] at hv
  obtain ⟨rfl,_⟩:=hv
  simpa [aF] using hr
 | x::y::l,v::u::vs,h2,_ =>
  simp only [aF,Rv]
  exact ⟨(v::u::vs).toArray,by simp,h2⟩
theorem xI {c:Cx} {args:List AV} {vs:List Value} (h:Rl c args vs) (N:Nat):∀k,Rv c (ez args k) ((vs.toArray++Array.replicate (N-vs.toArray.size) undef).getD k undef):=by
 intro k
 have hlen:=h.length
 unfold ez
 rw [List.getD_eq_getElem?_getD]
 cases ha:args[k]? with
 | none=>simp only [Option.getD_none,Rv]
 | some x =>
  obtain ⟨v,hv,hr⟩:=h.get k x ha
  have hlt:k<vs.length:=by
   rcases Nat.lt_or_ge k vs.length with h'|h'
   ·exact h'
   ·rw [List.getElem?_eq_none h'] at hv; cases hv
  simp only [Option.getD_some]
  rw [Array.getD_eq_getD_getElem?,Array.getElem?_append_left (by simpa using hlt)]
  simp only [List.getElem?_toArray,hv,Option.getD_some]
  exact hr
theorem fo {P:Program} {g:FuncId} {fn:Func} {c:Code} (hf:P.funcs[g]?=some fn) (hb:fn.body=some c) (hname:(fn.name == "runtime.NumGoroutine")=false) {vs:Array Value} {w:World} {Post:Value→World→Prop}
 (h:Calls P g vs w fun e w'=>∃v,e = .returned v∧Post v w'):bZ P g vs w Post:=by
 have:(callFunc g vs).run P w = .ok (.enter g vs) w:=by
  unfold callFunc
  simp only [Sem.run_bind,run_program,Result.andThen_ok,hf,hname,Bool.false_eq_true,if_false,hb,Option.isNone_some,Sem.run_pure]
 unfold bZ
 rw [this]
 exact h
theorem AG {c0 c:Cx} {f:Nat→BS} {D:Nat} (hk:HOk c f) (h1:c.w.heap[D]?=some (.deferred (some []))) (h2:∀id e,c.mu id=some e→e.real=true→e.block≠D) (hlo:c0.w.heap.size≤D) (hs:Stp c0 c) :
 HOk { c with w:=c.w.putObj D (.deferred none) } f∧Kr c { c with w:=c.w.putObj D (.deferred none) }∧Stp c0 { c with w:=c.w.putObj D (.deferred none) }:=by
 have hother:∀b,b≠D→(c.w.putObj D (.deferred none)).heap[b]?=c.w.heap[b]?:=fun b hb=>World.putObj_heap_other hb
 have hkr:Kr c { c with w:=c.w.putObj D (.deferred none) }:=by
  refine ⟨by simp,fun b hb hF o v hv=>?_,fun _ h=>h,fun _ _ => .inl rfl,fun _ _ h=>h⟩
  have hbD:b≠D:=fun hbD=>by
   subst hbD
   unfold World.cell? at hv
   rw [h1] at hv; cases hv
  rw [gr (hother b hbD)]; exact hv
 refine ⟨?_,hkr,⟨hs.os,hs.tape,hs.output,by simp only [World.putObj_size]; exact hs.size,fun b hb hn=>(hother b (by omega)).trans (hs.keep b hb hn),hs.U,hs.mu,hs.new,hs.F⟩⟩
 constructor
 ·exact hk.used
 ·exact hk.none
 ·intro id sz l h
  obtain ⟨e,he,g1,g2,g3⟩:=hk.live id sz l h
  refine ⟨e,he,g1,g2,fun hr=>?_⟩
  obtain ⟨hre,htot,cs,ty,hh,hsz⟩:=g3 hr
  have hb:=hother e.block (h2 id e he hr)
  refine ⟨Re.of_get fun i a hi=>?_,htot,cs,ty,hb.trans hh,hsz⟩
  obtain ⟨v,q1,q2,q3,q4,q5⟩:=hre.get i a hi
  exact ⟨v,q1.keepR hkr,q2,q3,q4,q5.block hb⟩
 ·intro id o t h
  obtain ⟨e,oo,he,g1,g2,g3,gS,g4,g5,g6⟩:=hk.obj id o t h
  exact ⟨e,oo,he,g1,g2,g3,gS,(hother e.block (h2 id e he g1)).trans g4,fun k=>(g5 k).keepR hkr,g6⟩
 ·exact hk.inj
 ·exact hk.shut
theorem i7 {P:Program} {fn:Func} {tmps:Array Value} {R:Ending→World→Prop} {c0:Cx} {f:Nat→BS} {t:Nat→AV}
 (key:∀c:Cx,HOk c f→(∀k,Rv c (t k) (tmps.getD k undef))→Stp c0 c→∃v,(results fn tmps).run P c.w = .ok v c.w∧R (.returned v) c.w) :
 ∀(ds:List Deferred) (c:Cx),HOk c f→(∀k,Rv c (t k) (tmps.getD k undef))→Stp c0 c→cU c c0.w.heap.size ds→LeavesInM Fence.wide 0 P fn tmps R ds .returning c.w
 | [],c,hk,ht,hs,_=>key c hk ht hs
 | d::ds,c,hk,ht,hs,⟨⟨D,hd,hlo,h1,h2⟩,hnot,hrest⟩=>by
  obtain ⟨g1,g2,g3⟩:=AG hk h1 h2 hlo hs
  refine ⟨by simp,.inl ⟨D,_,by rw [hd],run_takeDeferred h1,?_⟩⟩
  refine i7 key ds { c with w:=c.w.putObj D (.deferred none) } g1 (fun k=>(ht k).keepR g2) g3 ?_
  have:∀ds:List Deferred,d ∉ ds→cU c c0.w.heap.size ds→cU { c with w:=c.w.putObj D (.deferred none) } c0.w.heap.size ds:=by
   intro ds
   induction ds with
   | nil=>intro _ _; trivial
   | cons d' ds ih =>
    rintro hn ⟨⟨D',q1,q2,q3,q4⟩,q5,q6⟩
    simp only [List.mem_cons,not_or] at hn
    refine ⟨⟨D',q1,q2,?_,q4⟩,q5,ih hn.2 q6⟩
    have hne:D'≠D:=fun h=>hn.1 (by rw [hd,q1,h])
    exact (World.putObj_heap_other hne).trans q3
  exact this ds hnot hrest
theorem CA.of_wp {P:Program} {z:Bool} (hm:P.follows .mixedOrders=true) {g:FuncId} {fn:Func} {c:Code} (hf:P.funcs[g]?=some fn) (hb:fn.body=some c) (hname:(fn.name == "runtime.NumGoroutine")=false) {args:List AV} (hN:args.length≤fn.ntmps) (hok:fM z fn.ntmps c=true)
 {f:Nat→BS} {n:Nat} {K:AV→(Nat→BS)→Nat→Prop}
 (h:gE P z n c (fun e s=>match e with | .exit _=>False|_=>aO P s fn.results.toList fun l=>K (aF l) s.f s.n) ⟨ez args,f,n⟩):CA P g args f n K:=by
 intro cx vs hk hfr hl
 refine fo hf hb hname ?_
 refine callsIn_wide (n:=0).1 ?_
 refine callsIn_of_wp_marks hf hb trivial ?_
 have hlen:=hl.length
 have hsat:mY cx n fn.ntmps ⟨ez args,f,n⟩ { tmps:=vs.toArray++Array.replicate (fn.ntmps-vs.toArray.size) undef,defers:=[] } cx.w :=
  ⟨cx,rfl,hk,hfr,xI hl fn.ntmps,by simp; omega,trivial,Stp.refl cx,rP hk hfr,Nat.le_refl _⟩
 rw [←xT]
 refine wpIn_mono (lJ hm c none cx n fn.ntmps _ _ _ _ hok h hsat) fun e a w hq=>?_
 have key:∀s,(aO P s fn.results.toList fun l=>K (aF l) s.f s.n)→mY cx n fn.ntmps s a w→LeavesInM (Fr none) 0 P fn a.tmps (fun e w'=>∃v,e = .returned v ∧
  ∃c' r f' n',c'.w=w'∧K r f' n'∧HOk c' f'∧Rv c' r v∧Stp cx c'∧n≤n'∧∀j,f' j = .fresh↔n'≤j) a.defers .returning w:=by
  rintro s hs ⟨c',rfl,hk',hfr',ht',hN',hd',hst',h0',hne'⟩
  refine i7 (c0:=cx) (f:=s.f) (t:=s.t) (fun c2 hk2 ht2 hs2=>?_) a.defers c' hk' ht' hst' hd'
  obtain ⟨l,v,g1,g2,g3⟩:=mR hk2 ht2 hs
  exact ⟨v,g3,v,rfl,c2,aF l,s.f,s.n,rfl,g1,hk2,g2,hs2,hne',hfr'⟩
 cases e<;>simp only [QR] at hq<;>simp only [bodyPostM]
 case normal=>obtain ⟨s,h1,h2⟩:=hq; exact key s h1 h2
 case ret=>obtain ⟨s,h1,h2⟩:=hq; exact key s h1 h2
 case exit i=>obtain ⟨s,h1,h2⟩:=hq; exact h1
theorem ab.of_wp {P:Program} {z:Bool} (hm:P.follows .mixedOrders=true) {g:FuncId} {fn:Func} {c:Code} (hf:P.funcs[g]?=some fn) (hb:fn.body=some c) (hname:(fn.name == "runtime.NumGoroutine")=false) {args:List AV} (hN:args.length≤fn.ntmps) (hok:fM z fn.ntmps c=true)
 {r:AV} (hro:ro r)
 (h:gE P z 0 c (fun e s=>match e with | .exit _=>False|_=>aO P s fn.results.toList fun l=>aM s.f (aF l)=r∧aE s.f (aF l)) ⟨ez args,fun _ => .fresh,0⟩):ab P g args r:=by
 refine ⟨hro,fun cx vs hm0 hU0 hl=>?_⟩
 have hk0:HOk cx (fun _ => .fresh):=by
  constructor
  ·intro id; simp [hU0 id]
  ·intro id _; exact hm0 id
  ·intro id sz l h; cases h
  ·intro id o t h; cases h
  ·intro i j ei ej h; rw [hm0] at h; cases h
  ·intro id e h; rw [hm0] at h; cases h
 have hca:CA P g args (fun _ => .fresh) 0 (fun r0 f' n'=>aM f' r0=r∧aE f' r0):=CA.of_wp hm hf hb hname hN hok h
 refine (hca cx vs hk0 (fun _=>by simp) hl).mono fun v w' ⟨c',r0,f',n',q1,q2,q3,q4,q5,_⟩=>?_
 obtain ⟨g1,g2⟩:=q2
 refine ⟨c'.bare fun b=>cx.F b∧b<cx.w.heap.size,q1,?_,?_⟩
 ·refine ⟨q5.os,q5.tape,q5.output,q5.size,q5.keep,fun id h=>absurd h (hU0 id),fun id h=>absurd h (hU0 id),fun id e h=>(by cases h),fun b hb=>⟨fun h=>h.1,fun _ h=>⟨h,hb⟩⟩⟩
 ·rw [←g1]
  refine s8 q3 (fun b _ h=>(q5.F b h.2).2 (fun id e he _=>absurd he (by rw [hm0 id]; exact fun h=>nomatch h)) h.1) (fun id e he hr h=>?_) r0 v g2 (by rw [g1]; exact hro) q4
  rcases q5.new id e he hr with h1|⟨j,e',hj,_⟩
  ·omega
  ·rw [hm0] at hj; cases hj
inductive Itm:Type 1 where
 | code (c:Code)
 | ops (y q:Bool) (O:Array Oper) (n0 i:Nat) (l:List Oper)
 | blk (id:Nat)
 | lp (α:Type) (st:α→St) (m:α→Nat) (x:α)
mutual
def mI (P:Program) (z:Bool) (ne:Nat) (Q:AEx→St→Prop):List Itm→St→Prop
 | [],s=>Q .normal s
 | .code c::k,s=>gE P z ne c (fun e s'=>match e with | .normal=>mI P z ne Q k s' | .exit i=>goX P z ne Q i k s' | .ret=>Q .ret s') s
 | .ops y q O n0 i l::k,s=>du P y q O n0 (fun s'=>mI P z ne Q k s') i l s.t s.f s.n
 | .blk _::k,s=>mI P z ne Q k s
 | .lp _ st m x::_,s=>∃y,le ne s (st y)∧m y<m x
def goX (P:Program) (z:Bool) (ne:Nat) (Q:AEx→St→Prop) (i:Nat):List Itm→St→Prop
 | [],s=>Q (.exit i) s
 | .blk j::k,s=>if i=j then mI P z ne Q k s else goX P z ne Q i k s
 | _::k,s=>goX P z ne Q i k s
end
def go (P:Program) (z:Bool) (ne:Nat) (Q:AEx→St→Prop) (k:List Itm) (t:Nat→AV) (f:Nat→BS) (n:Nat):Prop:=mI P z ne Q k ⟨t,f,n⟩
def x8 (P:Program) (z:Bool) (ne:Nat) (Q:AEx→St→Prop) (i:Nat) (k:List Itm) (t:Nat→AV) (f:Nat→BS) (n:Nat):Prop:=goX P z ne Q i k ⟨t,f,n⟩
def l5 (P:Program) (z:Bool) (ne:Nat) (Q:AEx→St→Prop) (x:fG) (d:Option Tmp) (k:List Itm) (t:Nat→AV) (f:Nat→BS) (n:Nat):Prop :=
 match x with
 | some (s,v)=>s∧go P z ne Q k (aG t d v) f n
 | none=>False
def Eh (P:Program) (z:Bool) (ne:Nat) (Q:AEx→St→Prop) (id:Nat) (x:Option (Prop×AV×BS)) (d:Option Tmp) (k:List Itm) (t:Nat→AV) (f:Nat→BS) (n:Nat):Prop :=
 match x with
 | some (s,v,b)=>s∧go P z ne Q k (aG t d v) (ar f id b) n
 | none=>False
def zM (P:Program) (z:Bool) (ne:Nat) (Q:AEx→St→Prop) (g:FuncId) (args:List AV) (d:Option Tmp) (k:List Itm) (t:Nat→AV) (f:Nat→BS) (n:Nat):Prop :=
 CA P g args f n fun r f' n'=>go P z ne Q k (aG t d r) f' n'
def Ec (P:Program) (z:Bool) (ne:Nat) (Q:AEx→St→Prop) (bq:Bool) (g:FuncId) (args:List AV) (d:Option Tmp) (k:List Itm) (t:Nat→AV) (f:Nat→BS) (n:Nat):Prop :=
 (∃r,CV P g args f r∧go P z ne Q k (aG t d r) f n)∨(bq=true∧CE P g args f fun r f'=>go P z ne Q k (aG t d r) f' n)
def No (P:Program) (z:Bool) (ne:Nat) (Q:AEx→St→Prop) (id:Nat) (args:List AV) (d:Option Tmp) (k:List Itm) (t:Nat→AV) (f:Nat→BS) (n:Nat):Prop :=
 YA P id args f n fun r f' n'=>go P z ne Q k (aG t d r) f' n'
def lZ (P:Program) (z:Bool) (ne:Nat) (Q:AEx→St→Prop) (q bq:Bool) (x:Option (FuncId×List AV)) (y:Option Nat) (args:List AV) (d:Option Tmp) (k:List Itm) (t:Nat→AV) (f:Nat→BS) (n:Nat):Prop :=
 match x with
 | some (g,args)=>if q then Ec P z ne Q bq g args d k t f n else zM P z ne Q g args d k t f n
 | none=>if q then False else match y with
  | some id=>No P z ne Q id args d k t f n
  | none=>False
def Nn (P:Program) (z:Bool) (ne:Nat) (Q:AEx→St→Prop) (v:AV) (k1 k2:List Itm) (t:Nat→AV) (f:Nat→BS) (n:Nat):Prop :=
 match v with
 | .bool b=>(b=true→go P z ne Q k1 t f n)∧(b=false→go P z ne Q k2 t f n)
 | _=>False
section
variable {P:Program} {z:Bool} {ne:Nat} {Q:AEx→St→Prop} {k:List Itm} {t:Nat→AV} {f:Nat→BS} {n:Nat}
theorem GY:go P z ne Q [] t f n=Q .normal ⟨t,f,n⟩:=rfl
theorem Ev:go P z ne Q (.code .skip::k) t f n=go P z ne Q k t f n:=rfl
theorem Ca {l:Nat}:go P z ne Q (.code (.label l)::k) t f n=go P z ne Q k t f n:=rfl
theorem G0:go P z ne Q (.code .ret::k) t f n=Q .ret ⟨t,f,n⟩:=rfl
theorem GT {id:Nat}:go P z ne Q (.blk id::k) t f n=go P z ne Q k t f n:=rfl
theorem Ep {i:Nat}:go P z ne Q (.code (.exit i)::k) t f n=x8 P z ne Q i k t f n:=rfl
theorem Ef {i:Nat}:x8 P z ne Q i [] t f n=Q (.exit i) ⟨t,f,n⟩:=rfl
theorem B0 {i:Nat}:x8 P z ne Q i (.blk i::k) t f n=go P z ne Q k t f n:=by simp [x8,go,goX]
theorem Ee {i j:Nat}:x8 P z ne Q i (.blk j::k) t f n=if i=j then go P z ne Q k t f n else x8 P z ne Q i k t f n:=rfl
theorem BZ {i:Nat} {c:Code}:x8 P z ne Q i (.code c::k) t f n=x8 P z ne Q i k t f n:=rfl
theorem Eg {i:Nat} {y q:Bool} {O:Array Oper} {n0 j:Nat} {l:List Oper}:x8 P z ne Q i (.ops y q O n0 j l::k) t f n=x8 P z ne Q i k t f n:=rfl
theorem GK {i:Nat} {α:Type} {st:α→St} {m:α→Nat} {x:α}:x8 P z ne Q i (.lp α st m x::k) t f n=x8 P z ne Q i k t f n:=rfl
theorem G1 {a b:Code}:go P z ne Q (.code (.seq a b)::k) t f n=go P z ne Q (.code a :: .code b::k) t f n:=by
 simp only [go,mI,gE]
 congr 1
 funext e s
 cases e<;>rfl
theorem B8 {id:Nat} {c:Code}:go P z ne Q (.code (.block id c)::k) t f n=go P z ne Q (.code c :: .blk id::k) t f n:=by
 simp only [go,mI,gE]
 congr 1
 funext e s
 cases e<;>rfl
theorem Ci {c:Code}:go P z ne Q (.code (.scope c)::k) t f n=go P z ne Q (.code c::k) t f n:=by
 simp only [go,mI,gE]
theorem zT {id:Nat} {O:Array Oper}:go P z ne Q (.code (.region id O false)::k) t f n=go P z ne Q (.ops false false O n 0 O.toList::k) t f n:=rfl
theorem wh {id:Nat} {O:Array Oper}:go P false ne Q (.code (.region id O true)::k) t f n=go P false ne Q (.ops false true O n 0 O.toList::k) t f (n+O.size):=rfl
theorem Eo {c:Operand} {x y:Code}:go P z ne Q (.code (.cond c x y)::k) t f n=Nn P z ne Q (a_ t c) (.code x::k) (.code y::k) t f n:=by
 simp only [go,mI,gE,Nn]<;>(cases a_ t c<;>rfl)
theorem az {id:Nat} {O:Array Oper} (h:fP false O=true) (g:go P z ne Q (.ops false true O n 0 O.toList::k) t f (n+O.size)):go P z ne Q (.code (.region id O true)::k) t f n:=by
 cases z with
 | false=>exact g
 | true =>
  simp only [go,mI,gE,h,Bool.not_true,Bool.and_true,cond_true] at g ⊢
  exact .inl ⟨trivial,g⟩
theorem BU {b:Bool} {k1 k2:List Itm}:Nn P z ne Q (.bool b) k1 k2 t f n=((b=true→go P z ne Q k1 t f n)∧(b=false→go P z ne Q k2 t f n)):=rfl
theorem kP {c:Code} {α:Type} (st:α→St) (m:α→Nat) (x0:α) (h0:le ne ⟨t,f,n⟩ (st x0)) (h:∀x,go P z ne Q (.code c :: .lp α st m x::k) (st x).t (st x).f (st x).n):go P z ne Q (.code (.loop c)::k) t f n:=by
 simp only [go,mI,gE]
 refine ⟨α,st,m,x0,h0,fun x=>?_⟩
 have:=h x
 simp only [go,mI] at this
 refine Eq.mp ?_ this
 congr 1
 funext e s
 cases e<;>rfl
theorem Cf {α:Type} {st:α→St} {m:α→Nat} {x:α}:go P z ne Q (.lp α st m x::k) t f n=∃y,le ne ⟨t,f,n⟩ (st y)∧m y<m x:=rfl
section ops
variable {y q:Bool} {O:Array Oper} {n0 i:Nat} {r:List Oper} {d:Option Tmp} {ty:TypeId} {pos:String} {after:Array Edge}
theorem wg:go P z ne Q (.ops y false O n0 i []::k) t f n=go P z ne Q k t f n:=rfl
theorem tV:go P z ne Q (.ops y true O n0 i []::k) t f n=go P z ne Q k t (dB n f) n:=rfl
theorem B7 {s:Prop} {v:AV}:l5 P z ne Q (some (s,v)) d k t f n=(s∧go P z ne Q k (aG t d v) f n):=rfl
theorem kO {v:AV}:l5 P z ne Q (some (True,v)) d k t f n=go P z ne Q k (aG t d v) f n:=by simp [l5]
theorem B1 {id:Nat} {s:Prop} {v:AV} {b:BS}:Eh P z ne Q id (some (s,v,b)) d k t f n=(s∧go P z ne Q k (aG t d v) (ar f id b) n):=rfl
theorem B2 {id:Nat} {v:AV} {b:BS}:Eh P z ne Q id (some (True,v,b)) d k t f n=go P z ne Q k (aG t d v) (ar f id b) n:=by simp [Eh]
theorem BW {g:FuncId} {args as:List AV} {yy:Option Nat} {bq:Bool}:lZ P z ne Q false bq (some (g,args)) yy as d k t f n=zM P z ne Q g args d k t f n:=rfl
theorem BY {id:Nat} {as:List AV} {bq:Bool}:lZ P z ne Q false bq none (some id) as d k t f n=No P z ne Q id as d k t f n:=rfl
theorem BX {g:FuncId} {args as:List AV} {yy:Option Nat} {bq:Bool}:lZ P z ne Q true bq (some (g,args)) yy as d k t f n=Ec P z ne Q bq g args d k t f n:=rfl
theorem gO {op:Op} (h:aH op = .v):go P z ne Q (.ops y q O n0 i (⟨d,op,ty,pos,after,none⟩::r)::k) t f n=l5 P z ne Q (iL P (a_ t) op) d (.ops y q O n0 (i+1) r::k) t f n:=by
 simp only [go,mI,du,fY,h,l5]
 cases iL P (a_ t) op<;>rfl
theorem GZ {op:Op} (h:aH op = .r):go P z ne Q (.ops y q O n0 i (⟨d,op,ty,pos,after,none⟩::r)::k) t f n=l5 P z ne Q (aS P (fz (fe y q O n0 i) f) (a_ t) op) d (.ops y q O n0 (i+1) r::k) t f n:=by
 simp only [go,mI,du,fY,h,l5]
 cases aS P (fz (fe y q O n0 i) f) (a_ t) op<;>rfl
theorem Es {op:Op} (h:aH op = .g):go P z ne Q (.ops y q O n0 i (⟨d,op,ty,pos,after,none⟩::r)::k) t f n=Eh P z ne Q (pI q n0 i n) (pH P (pI q n0 i n) (a_ t) op) d (.ops y q O n0 (i+1) r::k) t f (kX q n):=by
 simp only [go,mI,du,fY,h,Eh]
 cases pH P (pI q n0 i n) (a_ t) op<;>rfl
theorem En {c:Call} (h:aH (.call c) = .c):go P z ne Q (.ops y q O n0 i (⟨d,.call c,ty,pos,after,none⟩::r)::k) t f n=lZ P z ne Q q (dv O i) (d_ (a_ t) c) (AZ (a_ t) c) (c.args.toList.map (a_ t)) d (.ops y q O n0 (i+1) r::k) t f n:=by
 simp only [go,mI,du,fY,h,lZ,zM,Ec,No]
 cases d_ (a_ t) c<;>cases AZ (a_ t) c<;>rfl
theorem FJ {op:Op} (h:aH op = .n):go P z ne Q (.ops y false O n0 i (⟨d,op,ty,pos,after,none⟩::r)::k) t f n=(KL P (a_ t) (fun v=>go P z ne Q (.ops y false O n0 (i+1) r::k) (aG t d v) f n) op∨HV P f (a_ t) (fun v f'=>go P z ne Q (.ops y false O n0 (i+1) r::k) (aG t d v) f' n) op):=by
 simp only [go,mI,du,fY,h,Bool.false_eq_true,if_false]
theorem B9 {x:Operand} {t' e:TypeId} {ti te:TI} {sz sz' b off len:Nat} {l:List AV} (h1:ak P t'=some ti) (h2:ti.kind = .slice e) (h3:ak P e=some te) (hx:a_ t x = .own sz b off len) (hf:f b = .live sz' l) (hs:te.size=sz∧0<len∧off+len≤l.length)
 (h:go P z ne Q (.ops y false O n0 (i+1) r::k) (aG t d (.tup [])) (ar f b (.live sz' (l.take off))) n):go P z ne Q (.ops y false O n0 i (⟨d,.call ⟨.builtin .clear,#[x],#[t']⟩,ty,pos,after,none⟩::r)::k) t f n:=by
 rw [FJ rfl]
 refine .inr ?_
 simp only [HV,h1,h2,h3,hx,hf]
 exact ⟨hs,h⟩
def pM (P:Program) (z:Bool) (ne:Nat) (Q:AEx→St→Prop) (v:AV) (e:Tmp) (want:Bool) (d:Option Tmp) (k1 k2:List Itm) (t:Nat→AV) (f:Nat→BS) (n:Nat):Prop :=
 match v with
 | .bool b=>(b=want→go P z ne Q k1 (ar t e (.bool want)) f n)∧(b = !want→go P z ne Q k2 (aG (ar t e (.bool (!want))) d (.tup [])) f n)
 | .tup []=>go P z ne Q k2 (aG t d (.tup [])) f n
 | _=>False
theorem B_ {op:Op} {j:Nat} {want:Bool} {e:Tmp} (h:er O j=some e):go P z ne Q (.ops y q O n0 i (⟨d,op,ty,pos,after,some (j,want)⟩::r)::k) t f n =
 pM P z ne Q (t e) e want d (.ops y q O n0 i (⟨d,op,ty,pos,after,none⟩::r)::k) (.ops y q O n0 (i+1) r::k) t f n:=by
 simp only [go,mI,du,h,pM]
 all_goals
  generalize t e=v
  cases v<;>first|rfl|(rename_i cs; cases cs<;>rfl)
theorem B4 {e:Tmp} {want:Bool} {k1 k2:List Itm}:pM P z ne Q (.bool want) e want d k1 k2 t f n=go P z ne Q k1 (ar t e (.bool want)) f n:=by
 cases want<;>simp [pM]
theorem Ei {e:Tmp} {want:Bool} {k1 k2:List Itm}:pM P z ne Q (.bool (!want)) e want d k1 k2 t f n=go P z ne Q k2 (aG (ar t e (.bool (!want))) d (.tup [])) f n:=by
 cases want<;>simp [pM]
theorem B3 {e:Tmp} {want:Bool} {k1 k2:List Itm}:pM P z ne Q (.tup []) e want d k1 k2 t f n=go P z ne Q k2 (aG t d (.tup [])) f n:=rfl
theorem zN {b:Bool} {e:Tmp} {want:Bool} {k1 k2:List Itm}:pM P z ne Q (.bool b) e want d k1 k2 t f n=((b=want→go P z ne Q k1 (ar t e (.bool want)) f n)∧(b = !want→go P z ne Q k2 (aG (ar t e (.bool (!want))) d (.tup [])) f n)):=rfl
end ops
theorem ai {g:FuncId} {args:List AV} {d:Option Tmp} (r:AV) (hp:ab P g args r) (hro:roL args) (h:go P z ne Q k (aG t d r) f n):zM P z ne Q g args d k t f n:=CA.of_pure_ro hp hro h
theorem ag {g:FuncId} {args:List AV} {d:Option Tmp} {r:AV} (hp:ab P g args r) (h:go P z ne Q k (aG t d r) f n) (hro:roL args:=by simp -implicitDefEqProofs [go_sem]):zM P z ne Q g args d k t f n:=ai r hp hro h
theorem BV {g:FuncId} {args args':List AV} {d:Option Tmp} (r:AV) (hp:ab P g args' r) (hv:viewL f args=args') (hro:roL args') (hfit:fitsL f args) (hor:roL args∨flat r) (h:go P z ne Q k (aG t d r) f n):zM P z ne Q g args d k t f n:=CA.of_pure hp hv hro hfit hor h
theorem GJ {bq:Bool} {g:FuncId} {args:List AV} {d:Option Tmp} (r:AV) (hp:CV P g args f r) (h:go P z ne Q k (aG t d r) f n):Ec P z ne Q bq g args d k t f n := .inl ⟨r,hp,h⟩
theorem aC {bq:Bool} {g:FuncId} {args:List AV} {d:Option Tmp} (r:AV) (hp:ab P g args r) (hro:roL args) (h:go P z ne Q k (aG t d r) f n):Ec P z ne Q bq g args d k t f n:=by
 refine .inl ⟨r,.of_pure ?_ ?_ (fitsL_ro f args hro) (.inl hro),h⟩
 ·rw [viewL_ro f args hro]; exact hp
 ·rw [viewL_ro f args hro]; exact hro
theorem aa {bq:Bool} {g:FuncId} {args:List AV} {d:Option Tmp} {r:AV} (hp:ab P g args r) (h:go P z ne Q k (aG t d r) f n) (hro:roL args:=by simp -implicitDefEqProofs [go_sem]):Ec P z ne Q bq g args d k t f n:=aC r hp hro h
end
def Da (P:Program) (rs:List ResultVar) (r:AV):AEx→St→Prop:=fun e s =>
 match e with
 | .exit _=>False
 | _=>aO P s rs fun l=>aM s.f (aF l)=r∧aE s.f (aF l)
def wY (P:Program) (rs:List ResultVar) (K:AV→(Nat→BS)→Nat→Prop):AEx→St→Prop:=fun e s =>
 match e with
 | .exit _=>False
 | _=>aO P s rs fun l=>K (aF l) s.f s.n
section
variable {P:Program} {rs:List ResultVar} {r:AV} {t:Nat→AV} {f f0:Nat→BS} {n n0:Nat} {K:AV→(Nat→BS)→Nat→Prop}
theorem Db:Da P rs r .ret ⟨t,f,n⟩=aO P ⟨t,f,n⟩ rs fun l=>aM f (aF l)=r∧aE f (aF l):=rfl
theorem uG:Da P rs r .normal ⟨t,f,n⟩=aO P ⟨t,f,n⟩ rs fun l=>aM f (aF l)=r∧aE f (aF l):=rfl
theorem C_:wY P rs K .ret ⟨t,f,n⟩=aO P ⟨t,f,n⟩ rs fun l=>K (aF l) f n:=rfl
theorem uF:wY P rs K .normal ⟨t,f,n⟩=aO P ⟨t,f,n⟩ rs fun l=>K (aF l) f n:=rfl
end
theorem rt {P:Program} {z:Bool} {ne:Nat} {Q:AEx→St→Prop} {c:Code} {t:Nat→AV} {f:Nat→BS} {n:Nat} (h:go P z ne Q [.code c] t f n):gE P z ne c Q ⟨t,f,n⟩:=by
 simp only [go,mI] at h
 refine Eq.mp ?_ h
 congr 1
 funext e s
 cases e<;>rfl
theorem ab.of_goz (z:Bool) {P:Program} (hm:P.follows .mixedOrders=true) {g:FuncId} {fn:Func} {c:Code} (hf:P.funcs[g]?=some fn) (hb:fn.body=some c) {rs:List ResultVar} (hrs:fn.results.toList=rs) {args:List AV} (hq:((fn.name == "runtime.NumGoroutine") || !(fM z fn.ntmps c) || !decide (args.length≤fn.ntmps))=false)
 {r:AV} (hro:ro r) (h:go P z 0 (Da P rs r) [.code c] (ez args) (fun _ => .fresh) 0):ab P g args r:=by
 simp only [Bool.or_eq_false_iff,Bool.not_eq_false',decide_eq_true_eq] at hq
 subst hrs
 exact ab.of_wp hm hf hb hq.1.1 hq.2 hq.1.2 hro (rt h)
theorem CA.of_goz (z:Bool) {P:Program} (hm:P.follows .mixedOrders=true) {g:FuncId} {fn:Func} {c:Code} (hf:P.funcs[g]?=some fn) (hb:fn.body=some c) {rs:List ResultVar} (hrs:fn.results.toList=rs) {args:List AV} (hq:((fn.name == "runtime.NumGoroutine") || !(fM z fn.ntmps c) || !decide (args.length≤fn.ntmps))=false)
 {f:Nat→BS} {n:Nat} {K:AV→(Nat→BS)→Nat→Prop} (h:go P z n (wY P rs K) [.code c] (ez args) f n):CA P g args f n K:=by
 simp only [Bool.or_eq_false_iff,Bool.not_eq_false',decide_eq_true_eq] at hq
 subst hrs
 exact CA.of_wp hm hf hb hq.1.1 hq.2 hq.1.2 (rt h)
theorem ab.of_go {P:Program} (hm:P.follows .mixedOrders=true) {g:FuncId} {fn:Func} {c:Code} (hf:P.funcs[g]?=some fn) (hb:fn.body=some c) {rs:List ResultVar} (hrs:fn.results.toList=rs) {args:List AV} (hq:((fn.name == "runtime.NumGoroutine") || !(fM false fn.ntmps c) || !decide (args.length≤fn.ntmps))=false)
 {r:AV} (hro:ro r) (h:go P false 0 (Da P rs r) [.code c] (ez args) (fun _ => .fresh) 0):ab P g args r :=
 ab.of_goz false hm hf hb hrs hq hro h
theorem CA.of_go {P:Program} (hm:P.follows .mixedOrders=true) {g:FuncId} {fn:Func} {c:Code} (hf:P.funcs[g]?=some fn) (hb:fn.body=some c) {rs:List ResultVar} (hrs:fn.results.toList=rs) {args:List AV} (hq:((fn.name == "runtime.NumGoroutine") || !(fM false fn.ntmps c) || !decide (args.length≤fn.ntmps))=false)
 {f:Nat→BS} {n:Nat} {K:AV→(Nat→BS)→Nat→Prop} (h:go P false n (wY P rs K) [.code c] (ez args) f n):CA P g args f n K :=
 CA.of_goz false hm hf hb hrs hq h
def Hs (nr:Nat) (t:Nat→AV) (r:Loop) (K:AV→(Nat→BS)→Nat→Prop):AEx→St→Prop:=fun e s =>
 s.f nr = .obj (.loop (eg r)) t∧K (.bool e.goes) (ar s.f nr (.obj (.loop (bv r e)) t)) s.n
def Df (P:Program) (z:Bool) (nr:Nat) (t:Nat→AV) (r:Loop) (n:Nat) (body:Code) (K:AV→(Nat→BS)→Nat→Prop):AEx→St→Prop:=fun e s =>
 e = .normal∧s.f nr = .obj (.loop r) t∧go P z n (Hs nr t r K) [.code body] s.t (ar s.f nr (.obj (.loop (eg r)) t)) s.n
def Ln (P:Program) (z:Bool) (nr len:Nat) (t:Nat→AV) (r:Loop) (assign body:Code) (ps:List Nat):Prop :=
 ∀(vs:List AV) (f:Nat→BS) (n:Nat) (K:AV→(Nat→BS)→Nat→Prop),vs.length=len→f nr = .obj (.loop r) t→nr<n→go P z n (Df P z nr t r n body K) [.code assign] (sF t ps vs) f n→YA P nr vs f n K
def zO (P:Program) (z:Bool) (ne:Nat) (Q:AEx→St→Prop) (e:AEx) (k:List Itm) (t:Nat→AV) (f:Nat→BS) (n:Nat):Prop :=
 match e with
 | .normal=>go P z ne Q k t f n
 | .exit i=>x8 P z ne Q i k t f n
 | .ret=>Q .ret ⟨t,f,n⟩
def GM (P:Program) (z:Bool) (ne:Nat) (Q:AEx→St→Prop) (v:AV) (ps:Array Tmp) (assign body:Code) (k:List Itm) (t:Nat→AV) (f:Nat→BS) (n:Nat):Prop :=
 match v with
 | .fn (.func gf) fs cap=>vC P gf∧∀r:Loop,Ln P z n ps.size (cut n t) r assign body ps.toList →
  CA P gf (fs++[.yld n]++cap) (ar f n (.obj (.loop r) (cut n t))) (n+1) fun _ f' n'=>∃e,f' n = .obj (.loop (bv r e)) (cut n t)∧zO P z ne Q e k t (ar f' n .dead) n'
 | _=>False
theorem E_ {nr:Nat} {t:Nat→AV} {r:Loop} {K:AV→(Nat→BS)→Nat→Prop} {e:AEx} {t1:Nat→AV} {f1:Nat→BS} {n1:Nat}:Hs nr t r K e ⟨t1,f1,n1⟩=(f1 nr = .obj (.loop (eg r)) t∧K (.bool e.goes) (ar f1 nr (.obj (.loop (bv r e)) t)) n1):=rfl
theorem uI {P:Program} {z:Bool} {nr:Nat} {t:Nat→AV} {r:Loop} {n:Nat} {body:Code} {K:AV→(Nat→BS)→Nat→Prop} {t1:Nat→AV} {f1:Nat→BS} {n1:Nat} :
 Df P z nr t r n body K .normal ⟨t1,f1,n1⟩=(f1 nr = .obj (.loop r) t∧go P z n (Hs nr t r K) [.code body] t1 (ar f1 nr (.obj (.loop (eg r)) t)) n1):=by simp [Df]
theorem tW:AEx.goes .normal=true:=rfl
theorem Cj:AEx.goes .ret=false:=rfl
theorem zU {i:Nat}:AEx.goes (.exit i)=false:=rfl
section
variable {P:Program} {z:Bool} {ne:Nat} {Q:AEx→St→Prop} {k:List Itm} {t:Nat→AV} {f:Nat→BS} {n:Nat}
theorem tU:zO P z ne Q .normal k t f n=go P z ne Q k t f n:=rfl
theorem zQ {i:Nat}:zO P z ne Q (.exit i) k t f n=x8 P z ne Q i k t f n:=rfl
theorem B5:zO P z ne Q .ret k t f n=Q .ret ⟨t,f,n⟩:=rfl
theorem Ek {gf:FuncId} {fs cap:List AV} {ps:Array Tmp} {assign body:Code}:GM P z ne Q (.fn (.func gf) fs cap) ps assign body k t f n=(vC P gf∧∀r:Loop,Ln P z n ps.size (cut n t) r assign body ps.toList →
 CA P gf (fs++[.yld n]++cap) (ar f n (.obj (.loop r) (cut n t))) (n+1) fun _ f' n'=>∃e,f' n = .obj (.loop (bv r e)) (cut n t)∧zO P z ne Q e k t (ar f' n .dead) n'):=rfl
theorem Ch {c:Code}:go P z ne Q [.code c] t f n=gE P z ne c Q ⟨t,f,n⟩:=by
 simp only [go,mI]
 congr 1
 funext e s
 cases e<;>rfl
theorem rT {g:Operand} {ps:Array Tmp} {assign body:Code}:go P z ne Q (.code (.rangeFunc g ps assign body)::k) t f n=GM P z ne Q (a_ t g) ps assign body k t f n:=by
 have hr:∀r:Loop,Ln P z n ps.size (cut n t) r assign body ps.toList=nH P n ps.size (cut n t) r (fun n=>gE P z n assign) (fun n=>gE P z n body) ps.toList:=by
  intro r
  unfold Ln nH
  simp only [Ch]
  have:∀(n1:Nat) (K:AV→(Nat→BS)→Nat→Prop),Df P z n (cut n t) r n1 body K=fun e s1=>e = .normal∧s1.f n = .obj (.loop r) (cut n t) ∧
   gE P z n1 body (fun e s2=>s2.f n = .obj (.loop (eg r)) (cut n t)∧K (.bool e.goes) (ar s2.f n (.obj (.loop (bv r e)) (cut n t))) s2.n) ⟨s1.t,ar s1.f n (.obj (.loop (eg r)) (cut n t)),s1.n⟩:=by
   intro n1 K
   funext e s1
   unfold Df
   rw [Ch]
   rfl
  simp only [this]
 have he:∀(e:AEx) (f':Nat→BS) (n':Nat),zO P z ne Q e k t f' n'=(match e with | .normal=>mI P z ne Q k ⟨t,f',n'⟩ | .exit i=>goX P z ne Q i k ⟨t,f',n'⟩ | .ret=>Q .ret ⟨t,f',n'⟩):=by
  intro e f' n'; cases e<;>rfl
 show gE P z ne (.rangeFunc g ps assign body) (fun e s'=>match e with | .normal=>mI P z ne Q k s' | .exit i=>goX P z ne Q i k s' | .ret=>Q .ret s') ⟨t,f,n⟩=_
 simp only [gE,GM,hr,he]
 first|done|(generalize a_ t g=y; cases y<;>first|rfl|(rename_i fn _ _; cases fn<;>rfl))
end
theorem Jk:ez []=fun _=>AV.any:=rfl
theorem Jl (a:AV):ez [a]=ar (fun _ => .any) 0 a:=by
 funext k; unfold ez ar
 match k with
 | 0=>rfl
 | k+1=>simp
theorem Jm (a b:AV):ez [a,b]=ar (ar (fun _ => .any) 0 a) 1 b:=by
 funext k; unfold ez ar
 match k with
 | 0=>rfl
 | 1=>rfl
 | k+2=>simp
theorem Jn (a b c:AV):ez [a,b,c]=ar (ar (ar (fun _ => .any) 0 a) 1 b) 2 c:=by
 funext k; unfold ez ar
 match k with
 | 0=>rfl
 | 1=>rfl
 | 2=>rfl
 | k+3=>simp
theorem Jo (a b c d:AV):ez [a,b,c,d]=ar (ar (ar (ar (fun _ => .any) 0 a) 1 b) 2 c) 3 d:=by
 funext k; unfold ez ar
 match k with
 | 0=>rfl
 | 1=>rfl
 | 2=>rfl
 | 3=>rfl
 | k+4=>simp
open Go
set_option linter.unusedSimpArgs false
set_option linter.unusedVariables false
attribute [go_sem] Db uG C_ uF GY Ev Ca G0 GT Ep Ef B0 Ee BZ Eg GK G1 B8 Ci zT wh Eo BU wg kO B7 B2 B1 BW BX BY tV rT Ek tU zQ B5 E_ uI tW Cj zU B4 Ei B3 zN Jk Jl Jm Jn Jo
@[go_sem] theorem N_ (n0 i n:Nat):pI false n0 i n=n:=rfl
@[go_sem] theorem Oa (n0 i n:Nat):pI true n0 i n=n0+i:=rfl
@[go_sem] theorem Ob (n:Nat):kX false n=n+1:=rfl
@[go_sem] theorem Oc (n:Nat):kX true n=n:=rfl
@[go_sem] theorem N6 (n:Nat) (f:Nat→BS) (j:Nat):dB n f j=if j<n then m9 (f j) else f j:=rfl
@[go_sem] theorem GB:m9 .fresh = .dead:=rfl
@[go_sem] theorem IA:m9 .dead = .dead:=rfl
@[go_sem] theorem IB (sz:Nat) (l:List AV):m9 (.live sz l) = .live sz l:=rfl
@[go_sem] theorem J7 (o:Obj) (t:Nat→AV):m9 (.obj o t) = .obj o t:=rfl
attribute [go_sem] sF
@[go_sem] theorem Nd (n:Nat) (t:Nat→AV) (k:Nat):cut n t k=cl n (t k):=rfl
@[go_sem] theorem M1 (n:Nat):cl n .any = .any:=rfl
@[go_sem] theorem Ly (n:Nat) (b:Bool):cl n (.bool b) = .bool b:=rfl
@[go_sem] theorem M2 (n:Nat) (k:IntKind) (m:Int):cl n (.int k m) = .int k m:=rfl
@[go_sem] theorem M5 (n:Nat) (s:ByteArray):cl n (.str s) = .str s:=rfl
@[go_sem] theorem Lz (n:Nat):cl n .nilp = .nilp:=rfl
@[go_sem] theorem M4 (n id idx off:Nat):cl n (.ptr id idx off)=if id<n then .ptr id idx off else .any:=by
 simp only [cl,fg]; by_cases h:id<n<;>simp [h]
@[go_sem] theorem M3 (n sz id off len:Nat):cl n (.own sz id off len)=if id<n then .own sz id off len else .any:=by
 simp only [cl,fg]; by_cases h:id<n<;>simp [h]
@[go_sem] theorem M7 (n id:Nat):cl n (.yld id)=if id<n then .yld id else .any:=by
 simp only [cl,fg]; by_cases h:id<n<;>simp [h]
@[go_sem] theorem N3 (n id:Nat):cl n (.mp id)=if id<n then .mp id else .any:=by
 simp only [cl,fg]; by_cases h:id<n<;>simp [h]
@[go_sem] theorem M0 (n:Nat) (cs:List AV):cl n (.agg cs)=if cloTL n cs=true then .agg cs else .any:=by
 simp only [cl,fg]; cases cloTL n cs<;>rfl
@[go_sem] theorem N5 (n sz:Nat) (tg:Bool) (cs:List AV):cl n (.sl sz tg cs)=if cloTL n cs=true then .sl sz tg cs else .any:=by
 simp only [cl,fg]; cases cloTL n cs<;>rfl
@[go_sem] theorem N4 (n:Nat) (cs:List AV):cl n (.rp cs)=if cloTL n cs=true then .rp cs else .any:=by
 simp only [cl,fg]; cases cloTL n cs<;>rfl
@[go_sem] theorem M6 (n:Nat) (cs:List AV):cl n (.tup cs)=if cloTL n cs=true then .tup cs else .any:=by
 simp only [cl,fg]; cases cloTL n cs<;>rfl
@[go_sem] theorem N2 (n:Nat) (g:Fn) (fs cap:List AV):cl n (.fn g fs cap)=if (cloTL n fs && cloTL n cap)=true then .fn g fs cap else .any:=by
 simp only [cl,fg]; cases cloTL n fs<;>cases cloTL n cap<;>rfl
attribute [go_sem] fg cloTL
@[go_sem] theorem DE {α:Type} (g:Nat→α) (i:Nat) (x:α) (j:Nat):ar g i x j=if j=i then x else g j:=rfl
@[go_sem] theorem Lr (t:Nat→AV) (k:Nat):a_ t (.tmp k)=t k:=rfl
@[go_sem] theorem Lo (t:Nat→AV) (k:IntKind) (n:Int):a_ t (.const (.int k n)) = .int k n:=rfl
@[go_sem] theorem Jb (t:Nat→AV) (b:Bool):a_ t (.const (.bool b)) = .bool b:=rfl
@[go_sem] theorem Lq (t:Nat→AV) (s:ByteArray):a_ t (.const (.string s)) = .str s:=rfl
@[go_sem] theorem Lp (t:Nat→AV):a_ t (.const (.slice none 0 0)) = .sl 0 true []:=rfl
@[go_sem] theorem Je (t:Nat→AV):a_ t (.const (.pointer none)) = .nilp:=rfl
@[go_sem] theorem Jd (t:Nat→AV):a_ t (.const .nilFunc) = .any:=rfl
@[go_sem] theorem Jc (t:Nat→AV) (g:FuncId):a_ t (.func g) = .fn (.func g) [] []:=rfl
@[go_sem] theorem I0 (t:Nat→AV) (d:Nat) (v:AV):aG t (some d) v=ar t d v:=rfl
@[go_sem] theorem IZ (t:Nat→AV) (v:AV):aG t none v=t:=rfl
def C2 (c a b:AV):fG:=match c with
 | .bool t=>some (True,if t then a else b)
 | _=>none
@[go_sem] theorem Hi (a b:AV):C2 (.bool true) a b=some (True,a):=rfl
@[go_sem] theorem FY (a b:AV):C2 (.bool false) a b=some (True,b):=rfl
def rz (P:Program) (op:BinOp) (t:TypeId) (x y:AV):fG:=match x with
 | .bool a=>match ak P t with
  | some ti=>match ti.kind with
   | .bool=>bD op (.bool a) y
   | _=>none
  | none=>none
 | .int k a=>bD op (.int k a) y
 | .str a=>bD op (.str a) y
 | .agg cs=>nM P op t cs y
 | _=>none
@[go_sem] theorem JE (P:Program) (op:BinOp) (t:TypeId) (cs:List AV) (y:AV):rz P op t (.agg cs) y=nM P op t cs y:=rfl
@[go_sem] theorem JF (P:Program) (op:BinOp) (t:TypeId) (k:IntKind) (a:Int) (y:AV):rz P op t (.int k a) y=bD op (.int k a) y:=rfl
@[go_sem] theorem JG (P:Program) (op:BinOp) (t:TypeId) (a:ByteArray) (y:AV):rz P op t (.str a) y=bD op (.str a) y:=rfl
def Bk (x:Option TI) (r:fG):fG:=match x with
 | some ti=>match ti.kind with
  | .bool=>r
  | _=>none
 | none=>none
@[go_sem] theorem Gm (a b:Nat) (z:List AV) (r:fG):Bk (some ⟨a,b,.bool,z⟩) r=r:=rfl
@[go_sem] theorem Id (P:Program) (op:BinOp) (t:TypeId) (a:Bool) (y:AV):rz P op t (.bool a) y=Bk (ak P t) (bD op (.bool a) y):=by
 simp only [rz,Bk]
def yX (k:IntKind) (a b:Int):Int:=k.wrap ((BitVec.ofInt k.bits a &&& BitVec.ofInt k.bits b).toNat)
def FT (k:IntKind) (a b:Int):Int:=k.wrap ((BitVec.ofInt k.bits a ||| BitVec.ofInt k.bits b).toNat)
def Lj (k:IntKind) (a b:Int):Int:=k.wrap ((BitVec.ofInt k.bits a ^^^ BitVec.ofInt k.bits b).toNat)
section
variable (k:IntKind) (a b:Int) (k':IntKind)
@[go_sem] theorem JA:bD .shl (.int k a) (.int k' b)=some (0≤b,.int k (k.wrap (a*2 ^ (min b.toNat k.bits)))):=rfl
@[go_sem] theorem JB:bD .shr (.int k a) (.int k' b)=some (0≤b,.int k (a.fdiv (2 ^ (min b.toNat k.bits)))):=rfl
@[go_sem] theorem Jp:bD .add (.int k a) (.int k b)=some (True,.int k (k.wrap (a+b))):=by simp [bD]
@[go_sem] theorem JC:bD .sub (.int k a) (.int k b)=some (True,.int k (k.wrap (a-b))):=by simp [bD]
@[go_sem] theorem Jw:bD .mul (.int k a) (.int k b)=some (True,.int k (k.wrap (a*b))):=by simp [bD]
@[go_sem] theorem Jy:bD .quo (.int k a) (.int k b)=some (b≠0,.int k (k.wrap (a.tdiv b))):=by simp [bD]
@[go_sem] theorem Jz:bD .rem (.int k a) (.int k b)=some (b≠0,.int k (a.tmod b)):=by simp [bD]
@[go_sem] theorem Jq:bD .and (.int k a) (.int k b)=some (True,.int k (yX k a b)):=by simp [bD,yX]
@[go_sem] theorem Lu:bD .or (.int k a) (.int k b)=some (True,.int k (FT k a b)):=by simp [bD,FT]
@[go_sem] theorem JD:bD .xor (.int k a) (.int k b)=some (True,.int k (Lj k a b)):=by simp [bD,Lj]
@[go_sem] theorem Jr:bD .eql (.int k a) (.int k b)=some (True,.bool (decide (a=b))):=by simp [bD]
@[go_sem] theorem Jx:bD .neq (.int k a) (.int k b)=some (True,.bool (!decide (a=b))):=by simp [bD]
@[go_sem] theorem Jv:bD .lss (.int k a) (.int k b)=some (True,.bool (decide (a<b))):=by simp [bD]
@[go_sem] theorem Ju:bD .leq (.int k a) (.int k b)=some (True,.bool (decide (a≤b))):=by simp [bD]
@[go_sem] theorem Jt:bD .gtr (.int k a) (.int k b)=some (True,.bool (decide (a > b))):=by simp [bD]
@[go_sem] theorem Js:bD .geq (.int k a) (.int k b)=some (True,.bool (decide (a≥b))):=by simp [bD]
end
@[go_sem] theorem Ia (a b:ByteArray):bD .add (.str a) (.str b)=some (((a.size+b.size:Nat):Int)≤9223372036854775807,.str (a++b)):=rfl
@[go_sem] theorem Ib (a b:ByteArray):bD .eql (.str a) (.str b)=some (True,.bool (a.toList == b.toList)):=rfl
@[go_sem] theorem Ic (a b:ByteArray):bD .neq (.str a) (.str b)=some (True,.bool (!(a.toList == b.toList))):=rfl
@[go_sem] theorem H9 (a b:Bool):bD .eql (.bool a) (.bool b)=some (True,.bool (a == b)):=rfl
@[go_sem] theorem H_ (a b:Bool):bD .neq (.bool a) (.bool b)=some (True,.bool (!(a == b))):=rfl
@[go_sem] theorem MI (b:Bool):Fs .not (.bool b)=some (True,.bool (!b)):=rfl
@[go_sem] theorem MH (k:IntKind) (n:Int):Fs .neg (.int k n)=some (True,.int k (k.wrap (0-n))):=rfl
@[go_sem] theorem MJ (k:IntKind) (n:Int):Fs .xor (.int k n)=some (True,.int k (k.wrap ((BitVec.ofInt k.bits (if k.signed then -1 else k.max) ^^^ BitVec.ofInt k.bits n).toNat))):=rfl
@[go_sem] theorem Is (P:Program) (f:Nat→BS) (x:TI) (a b:Nat) (k:IntKind) (z:List AV) (k':IntKind) (n:Int):jK P f (some x) (some ⟨a,b,.int k,z⟩) (.int k' n)=some (True,.int k (k.wrap n)):=rfl
@[go_sem] theorem JS (P:Program) (f:Nat→BS) (a b:Nat) (e:TypeId) (z:List AV) (a' b':Nat) (z':List AV) (sz:Nat) (tg:Bool) (l:List AV):jK P f (some ⟨a,b,.slice e,z⟩) (some ⟨a',b',.string,z'⟩) (.sl sz tg l)=sT (tx (ak P e)) (some l) (sz=1):=rfl
@[go_sem] theorem Gp (a b:Nat) (z:List AV):tx (some ⟨a,b,.int .u8,z⟩)=true:=rfl
@[go_sem] theorem MF:A6 []=some []:=rfl
@[go_sem] theorem K9 (n:Int) (l:List AV):A6 (.int .u8 n::l)=(A6 l).map (n :: ·):=rfl
@[go_sem] theorem I4 (ns:List Int) (l:List AV) (p:Prop) (h:A6 l=some ns):sT true (some l) p=some (ns≠[]∧p,.str (Dx ns)):=by
 simp only [sT,Option.bind_some,h]
def iY (x:Option TI) (i:Nat):Option (Nat×TypeId):=match x with
 | some ti=>match ti.kind with
  | .struct fs=>fs[i]?
  | _=>none
 | none=>none
@[go_sem] theorem DM (a b:Nat) (fs:List (Nat×TypeId)) (z:List AV) (i:Nat):iY (some ⟨a,b,.struct fs,z⟩) i=fs[i]?:=rfl
def lR (P:Program) (x:Option (Nat×TypeId)) (v:AV):fG:=match x with
 | some (off,t)=>match ak P t with
  | some tf=>if tf.size=0 then none else match v with
   | .ptr id idx o=>some (True,.ptr id idx (o+off))
   | .rp cs=>some (True,.rp (cs.drop off))
   | _=>none
  | none=>none
 | none=>none
def pj (x:Option TI) (r:fG):fG:=match x with
 | some tf=>if tf.size=0 then none else r
 | none=>none
@[go_sem] theorem F7 (a b:Nat) (kd:TK) (z:List AV) (r:fG):pj (some ⟨a,b,kd,z⟩) r=if a=0 then none else r:=rfl
@[go_sem] theorem Gx (P:Program) (off:Nat) (t:TypeId) (id idx o:Nat):lR P (some (off,t)) (.ptr id idx o)=pj (ak P t) (some (True,.ptr id idx (o+off))):=by
 simp only [lR,pj]
@[go_sem] theorem Iy (P:Program) (off:Nat) (t:TypeId) (cs:List AV):lR P (some (off,t)) (.rp cs)=pj (ak P t) (some (True,.rp (cs.drop off))):=by
 simp only [lR,pj]
def rL (P:Program) (x:Option (Nat×TypeId)) (v:AV):fG:=match x with
 | some (off,t)=>match ak P t,v with
  | some tf,.agg cs=>some (off+tf.size≤cs.length,dD tf.kind.agg ((cs.drop off).take tf.size))
  | _,_=>none
 | none=>none
def wO (x:Option TI) (off:Nat) (cs:List AV):fG:=match x with
 | some tf=>some (off+tf.size≤cs.length,dD tf.kind.agg ((cs.drop off).take tf.size))
 | none=>none
@[go_sem] theorem FU (a b:Nat) (kd:TK) (z:List AV) (off:Nat) (cs:List AV):wO (some ⟨a,b,kd,z⟩) off cs=some (off+a≤cs.length,dD kd.agg ((cs.drop off).take a)):=rfl
@[go_sem] theorem Gz (P:Program) (off:Nat) (t:TypeId) (cs:List AV):rL P (some (off,t)) (.agg cs)=wO (ak P t) off cs:=by
 simp only [rL,wO]
 cases ak P t<;>rfl
@[go_sem] theorem Gj (fs:List (Nat×TypeId)):(TK.struct fs).agg=true:=rfl
@[go_sem] theorem H5 (n:Nat) (e:TypeId):(TK.array n e).agg=true:=rfl
@[go_sem] theorem Ls (k:IntKind):(TK.int k).agg=false:=rfl
@[go_sem] theorem Jf:TK.bool.agg=false:=rfl
@[go_sem] theorem Gi:TK.string.agg=false:=rfl
@[go_sem] theorem H7 (e:TypeId):(TK.slice e).agg=false:=rfl
@[go_sem] theorem Fz (e:TypeId):(TK.pointer e).agg=false:=rfl
@[go_sem] theorem Jg:TK.func.agg=false:=rfl
@[go_sem] theorem H6:TK.other.agg=false:=rfl
@[go_sem] theorem IX (cs:List AV):dD true cs = .agg cs:=rfl
@[go_sem] theorem Hh (c:AV) (cs:List AV):dD false (c::cs)=c:=rfl
def lP (P:Program) (x:Option TI):Option TI:=match x with
 | some ti=>match ti.kind with
  | .slice e=>ak P e
  | _=>none
 | none=>none
@[go_sem] theorem FC (P:Program) (a b:Nat) (e:TypeId) (z:List AV):lP P (some ⟨a,b,.slice e,z⟩)=ak P e:=rfl
def rY (P:Program) (ti:Option TI) (x i:AV):fG :=
 match ti,x,i with
 | some ti,.sl sz _ l,.int _ i=>match ti.kind with
  | .slice e=>match ak P e with
   | some te=>if te.size=sz then some (0≤i∧i<(l.length:Int),.rp (bk l i).cells) else none
   | none=>none
  | _=>none
 | some ti,.own sz id off len,.int _ i=>match ti.kind with
  | .slice e=>match ak P e with
   | some te=>if te.size=sz then some (0≤i∧i<(len:Int),.ptr id (off+i.toNat) 0) else none
   | none=>none
  | _=>none
 | some ti,.ptr id idx off,.int _ i=>match ti.kind with
  | .array n e=>match ak P e with
   | some te=>some (0≤i∧i<(n:Int),.ptr id idx (off+i.toNat*te.size))
   | none=>none
  | _=>none
 | some ti,.rp cs,.int _ i=>match ti.kind with
  | .array n e=>match ak P e with
   | some te=>some (0≤i∧i<(n:Int),.rp (cs.drop (i.toNat*te.size)))
   | none=>none
  | _=>none
 | _,_,_=>none
def uX (x:Option TI) (sz:Nat) (r:fG):fG:=match x with
 | some te=>if te.size=sz then r else none
 | none=>none
@[go_sem] theorem I5 (a b:Nat) (kd:TK) (z:List AV) (r:fG):uX (some ⟨a,b,kd,z⟩) a r=r:=by simp [uX]
def pE (x:Option TI) (r:Nat→fG):fG:=match x with
 | some te=>r te.size
 | none=>none
@[go_sem] theorem Ga (a b:Nat) (kd:TK) (z:List AV) (r:Nat→fG):pE (some ⟨a,b,kd,z⟩) r=r a:=rfl
@[go_sem] theorem L7 (P:Program) (a b:Nat) (e:TypeId) (z:List AV) (sz:Nat) (tg:Bool) (l:List AV) (k:IntKind) (i:Int) :
 rY P (some ⟨a,b,.slice e,z⟩) (.sl sz tg l) (.int k i)=uX (ak P e) sz (some (0≤i∧i<(l.length:Int),.rp (bk l i).cells)):=by
 simp only [rY,uX]
@[go_sem] theorem Km (P:Program) (a b:Nat) (e:TypeId) (z:List AV) (sz id off len:Nat) (k:IntKind) (i:Int) :
 rY P (some ⟨a,b,.slice e,z⟩) (.own sz id off len) (.int k i)=uX (ak P e) sz (some (0≤i∧i<(len:Int),.ptr id (off+i.toNat) 0)):=by
 simp only [rY,uX]
@[go_sem] theorem Kn (P:Program) (a b m:Nat) (e:TypeId) (z:List AV) (id idx off:Nat) (k:IntKind) (i:Int) :
 rY P (some ⟨a,b,.array m e,z⟩) (.ptr id idx off) (.int k i)=pE (ak P e) fun s=>some (0≤i∧i<(m:Int),.ptr id idx (off+i.toNat*s)):=by
 simp only [rY,pE]
@[go_sem] theorem L6 (P:Program) (a b m:Nat) (e:TypeId) (z:List AV) (cs:List AV) (k:IntKind) (i:Int) :
 rY P (some ⟨a,b,.array m e,z⟩) (.rp cs) (.int k i)=pE (ak P e) fun s=>some (0≤i∧i<(m:Int),.rp (cs.drop (i.toNat*s))):=by
 simp only [rY,pE]
def se (P:Program) (ti:Option TI) (x i:AV):fG :=
 match ti,x,i with
 | some ti,.str s,.int _ i=>match ti.kind with
  | .string=>some (0≤i∧i<(s.size:Int),.int .u8 ((s.data.toList.getD i.toNat 0).toNat:Nat))
  | _=>none
 | some ti,.agg cs,.int _ i=>match ti.kind with
  | .array n e=>match ak P e with
   | some te=>some (0≤i∧i<(n:Int)∧i.toNat*te.size+te.size≤cs.length,dD te.kind.agg ((cs.drop (i.toNat*te.size)).take te.size))
   | none=>none
  | _=>none
 | _,_,_=>none
def OV (s:ByteArray):List UInt8:=s.data.toList
def bt (s:ByteArray) (p:Nat):Nat:=((OV s).getD p 0).toNat
@[go_sem] theorem G7 (P:Program) (a b:Nat) (z:List AV) (s:ByteArray) (k:IntKind) (i:Int) :
 se P (some ⟨a,b,.string,z⟩) (.str s) (.int k i)=some (0≤i∧i<(s.size:Int),.int .u8 (bt s i.toNat:Nat)):=rfl
def Gk (x:Option TI) (n:Nat) (cs:List AV) (i:Int):fG:=match x with
 | some te=>some (0≤i∧i<(n:Int)∧i.toNat*te.size+te.size≤cs.length,dD te.kind.agg ((cs.drop (i.toNat*te.size)).take te.size))
 | none=>none
@[go_sem] theorem H8 (a b:Nat) (kd:TK) (z:List AV) (n:Nat) (cs:List AV) (i:Int):Gk (some ⟨a,b,kd,z⟩) n cs i=some (0≤i∧i<(n:Int)∧i.toNat*a+a≤cs.length,dD kd.agg ((cs.drop (i.toNat*a)).take a)):=rfl
@[go_sem] theorem G6 (P:Program) (a b m:Nat) (e:TypeId) (z:List AV) (cs:List AV) (k:IntKind) (i:Int) :
 se P (some ⟨a,b,.array m e,z⟩) (.agg cs) (.int k i)=Gk (ak P e) m cs i:=by
 simp only [se,Gk]
def FE (x:AV) (i:Nat):fG:=match x with
 | .tup cs=>some (i<cs.length,cs.getD i .any)
 | _=>none
@[go_sem] theorem Ix (cs:List AV) (i:Nat):FE (.tup cs) i=some (i<cs.length,cs.getD i .any):=rfl
def jM (place:Nat→Option (Nat×Nat)):List (Nat×AV)→List AV→Option (List AV)
 | [],cs=>some cs
 | (i,x)::r,cs =>
  match place i with
  | none=>none
  | some (off,size)=>if x.shaped size && decide (off+size≤cs.length) then jM place r (cs.take off++x.cells++cs.drop (off+size)) else none
theorem xQ (place:Nat→Option (Nat×Nat)) (ρ:Operand→AV):∀(l:List (Nat×Operand)) (cs:List AV),gM place ρ l cs=jM place (l.map fun p=>(p.1,ρ p.2)) cs
 | [],cs=>rfl
 | (i,x)::l,cs=>by
  simp only [gM,List.map_cons,jM]
  cases place i with
  | none=>rfl
  | some q =>
   obtain ⟨off,size⟩:=q
   simp only [xQ place ρ l]
def EA (p:Option (Nat×Nat)) (x:AV) (cs:List AV):Option (List AV):=match p with
 | some (off,size)=>if x.shaped size && decide (off+size≤cs.length) then some (cs.take off++x.cells++cs.drop (off+size)) else none
 | none=>none
def ub (P:Program) (fs:List (Nat×TypeId)):List (Nat×AV)→Option (List AV)→Option (List AV)
 | [],cs=>cs
 | (i,x)::r,some cs=>ub P fs r (EA ((fs[i]?).bind fun p=>(ak P p.2).map fun tf=>(p.1,tf.size)) x cs)
 | _::_,none=>none
theorem qs (P:Program) (fs:List (Nat×TypeId)):∀(l:List (Nat×AV)) (cs:List AV),jM (fun i=>(fs[i]?).bind fun p=>(ak P p.2).map fun tf=>(p.1,tf.size)) l cs=ub P fs l (some cs)
 | [],cs=>rfl
 | (i,x)::l,cs=>by
  simp only [jM,ub,EA]
  cases (fs[i]?).bind fun p=>(ak P p.2).map fun tf=>(p.1,tf.size) with
  | none=>cases l<;>rfl
  | some q =>
   obtain ⟨off,size⟩:=q
   simp only
   split
   ·exact qs P fs l _
   ·cases l<;>rfl
@[go_sem] theorem Kq (P:Program) (fs:List (Nat×TypeId)) (cs:List AV):ub P fs [] (some cs)=some cs:=rfl
@[go_sem] theorem IP (P:Program) (fs:List (Nat×TypeId)) (i:Nat) (x:AV) (r:List (Nat×AV)) (cs:List AV):ub P fs ((i,x)::r) (some cs)=ub P fs r (EA ((fs[i]?).bind fun p=>(ak P p.2).map fun tf=>(p.1,tf.size)) x cs):=rfl
@[go_sem] theorem IN (off size:Nat) (x:AV) (cs:List AV):EA (some (off,size)) x cs=if x.shaped size && decide (off+size≤cs.length) then some (cs.take off++x.cells++cs.drop (off+size)) else none:=rfl
def fJ (P:Program) (x:Option TI) (parts:List (Nat×AV)):fG:=match x with
 | some ti=>match ti.kind with
  | .struct fs=>(ub P fs parts (some ti.zero)).map fun cs=>(True,.agg cs)
  | .array _ e=>match ak P e with
   | some te=>(jM (fun i=>some (i*te.size,te.size)) parts ti.zero).map fun cs=>(True,.agg cs)
   | none=>none
  | _=>none
 | none=>none
@[go_sem] theorem DJ (P:Program) (a b:Nat) (fs:List (Nat×TypeId)) (z:List AV) (parts:List (Nat×AV)):fJ P (some ⟨a,b,.struct fs,z⟩) parts=(ub P fs parts (some z)).map fun cs=>(True,.agg cs):=rfl
@[go_sem] theorem Hz (cs:List AV) (n:Nat):(AV.agg cs).shaped n=(cs.length == n):=rfl
@[go_sem] theorem F5 (b:Bool) (n:Nat):(AV.bool b).shaped n=(n == 1):=by simp [AV.shaped,AV.sca]
@[go_sem] theorem HC (k:IntKind) (m:Int) (n:Nat):(AV.int k m).shaped n=(n == 1):=by simp [AV.shaped,AV.sca]
@[go_sem] theorem HF (s:ByteArray) (n:Nat):(AV.str s).shaped n=(n == 1):=by simp [AV.shaped,AV.sca]
@[go_sem] theorem I3 (a:Nat) (b:Bool) (l:List AV) (n:Nat):(AV.sl a b l).shaped n=(n == 1):=by simp [AV.shaped,AV.sca]
@[go_sem] theorem HD (a b c d:Nat) (n:Nat):(AV.own a b c d).shaped n=(n == 1):=by simp [AV.shaped,AV.sca]
@[go_sem] theorem HE (a b c:Nat) (n:Nat):(AV.ptr a b c).shaped n=(n == 1):=by simp [AV.shaped,AV.sca]
@[go_sem] theorem I2 (cs:List AV) (n:Nat):(AV.rp cs).shaped n=(n == 1):=by simp [AV.shaped,AV.sca]
@[go_sem] theorem I1 (g:Fn) (a b:List AV) (n:Nat):(AV.fn g a b).shaped n=(n == 1):=by simp [AV.shaped,AV.sca]
@[go_sem] theorem F6 (n:Nat):(AV.nilp).shaped n=(n == 1):=by simp [AV.shaped,AV.sca]
@[go_sem] theorem Ii (cs:List AV):(AV.agg cs).cells=cs:=rfl
@[go_sem] theorem Gq (b:Bool):(AV.bool b).cells=[.bool b]:=rfl
@[go_sem] theorem Ik (k:IntKind) (m:Int):(AV.int k m).cells=[.int k m]:=rfl
@[go_sem] theorem Io (s:ByteArray):(AV.str s).cells=[.str s]:=rfl
@[go_sem] theorem JN (a:Nat) (b:Bool) (l:List AV):(AV.sl a b l).cells=[.sl a b l]:=rfl
@[go_sem] theorem Il (a b c d:Nat):(AV.own a b c d).cells=[.own a b c d]:=rfl
@[go_sem] theorem Im (a b c:Nat):(AV.ptr a b c).cells=[.ptr a b c]:=rfl
@[go_sem] theorem JM (cs:List AV):(AV.rp cs).cells=[.rp cs]:=rfl
@[go_sem] theorem JL (g:Fn) (a b:List AV):(AV.fn g a b).cells=[.fn g a b]:=rfl
@[go_sem] theorem Gr:(AV.nilp).cells=[.nilp]:=rfl
@[go_sem] theorem Ij:(AV.any).cells=[.any]:=rfl
@[go_sem] theorem L_ (cs:List AV) (off:Nat) (new:List AV):(AV.agg cs).lay off new = .agg (cs.take off++new++cs.drop (off+new.length)):=rfl
@[go_sem] theorem Ks (b:Bool) (off:Nat) (v:AV):(AV.bool b).lay off [v]=v:=rfl
@[go_sem] theorem Mb (k:IntKind) (m:Int) (off:Nat) (v:AV):(AV.int k m).lay off [v]=v:=rfl
@[go_sem] theorem Me (s:ByteArray) (off:Nat) (v:AV):(AV.str s).lay off [v]=v:=rfl
@[go_sem] theorem Nz (a:Nat) (b:Bool) (l:List AV) (off:Nat) (v:AV):(AV.sl a b l).lay off [v]=v:=rfl
@[go_sem] theorem Mc (a b c d:Nat) (off:Nat) (v:AV):(AV.own a b c d).lay off [v]=v:=rfl
@[go_sem] theorem Md (a b c:Nat) (off:Nat) (v:AV):(AV.ptr a b c).lay off [v]=v:=rfl
@[go_sem] theorem Ny (cs:List AV) (off:Nat) (v:AV):(AV.rp cs).lay off [v]=v:=rfl
@[go_sem] theorem Nx (g:Fn) (a b:List AV) (off:Nat) (v:AV):(AV.fn g a b).lay off [v]=v:=rfl
@[go_sem] theorem Kt (off:Nat) (v:AV):(AV.nilp).lay off [v]=v:=rfl
def wJ (x:AV):fG:=match x with
 | .ptr id idx off=>some (True,.ptr id idx off)
 | .rp cs=>some (True,.rp cs)
 | _=>none
@[go_sem] theorem Ha (id idx off:Nat):wJ (.ptr id idx off)=some (True,.ptr id idx off):=rfl
@[go_sem] theorem IW (cs:List AV):wJ (.rp cs)=some (True,.rp cs):=rfl
def y_:Option AV→Option (Option Int)
 | none=>some none
 | some (.int _ n)=>some (some n)
 | _=>none
@[go_sem] theorem Ie:y_ none=some none:=rfl
@[go_sem] theorem JH (k:IntKind) (n:Int):y_ (some (.int k n))=some (some n):=rfl
def HI (P:Program) (x:Option TI) (v:AV) (lo hi mx:Option (Option Int)):fG :=
 match x,lo,hi,mx with
 | some ti,some lo,some hi,some mx=>match ti.kind,v with
  | .slice e,.sl sz tight l=>match ak P e with
   | some te=>if te.size=sz∨l=[] then (if mx.isSome && hi.isNone then none else c9 (.sl sz tight l) lo hi mx) else none
   | none=>none
  | .slice e,.own sz id off len=>match ak P e with
   | some te=>if te.size=sz then (if mx.isSome && hi.isNone then none else c9 (.own sz id off len) lo hi mx) else none
   | none=>none
  | .string,.str s=>c9 (.str s) lo hi mx
  | _,_=>none
 | _,_,_,_=>none
def AK (x:Option TI) (sz:Nat) (l:List AV) (r:fG):fG:=match x with
 | some te=>if te.size=sz∨l=[] then r else none
 | none=>none
@[go_sem] theorem I6 (a b:Nat) (kd:TK) (z:List AV) (l:List AV) (r:fG):AK (some ⟨a,b,kd,z⟩) a l r=r:=by simp [AK]
@[go_sem] theorem K4 (a b:Nat) (kd:TK) (z:List AV) (sz:Nat) (r:fG):AK (some ⟨a,b,kd,z⟩) sz [] r=r:=by simp [AK]
@[go_sem] theorem NQ (P:Program) (a b:Nat) (e:TypeId) (z:List AV) (sz:Nat) (tg:Bool) (l:List AV) (lo hi mx:Option Int) :
 HI P (some ⟨a,b,.slice e,z⟩) (.sl sz tg l) (some lo) (some hi) (some mx)=AK (ak P e) sz l (if mx.isSome && hi.isNone then none else c9 (.sl sz tg l) lo hi mx):=by
 simp only [HI,AK]
@[go_sem] theorem MC (P:Program) (a b:Nat) (e:TypeId) (z:List AV) (sz id off len:Nat) (lo hi mx:Option Int) :
 HI P (some ⟨a,b,.slice e,z⟩) (.own sz id off len) (some lo) (some hi) (some mx)=uX (ak P e) sz (if mx.isSome && hi.isNone then none else c9 (.own sz id off len) lo hi mx):=by
 simp only [HI,uX]
@[go_sem] theorem MD (P:Program) (a b:Nat) (z:List AV) (s:ByteArray) (lo hi mx:Option Int):HI P (some ⟨a,b,.string,z⟩) (.str s) (some lo) (some hi) (some mx)=c9 (.str s) lo hi mx:=rfl
attribute [go_sem] c9 so
def Cr (x:Option TI) (v:AV):fG:=match x,v with
 | some ti,.str s=>match ti.kind with
  | .string=>some (True,.int .i64 s.size)
  | _=>none
 | some ti,.sl _ _ l=>match ti.kind with
  | .slice _=>some (True,.int .i64 l.length)
  | _=>none
 | some ti,.own _ _ _ len=>match ti.kind with
  | .slice _=>some (True,.int .i64 len)
  | _=>none
 | some ti,_=>match ti.kind with
  | .array n _=>some (True,.int .i64 n)
  | _=>none
 | _,_=>none
@[go_sem] theorem Ky (a b:Nat) (z:List AV) (s:ByteArray):Cr (some ⟨a,b,.string,z⟩) (.str s)=some (True,.int .i64 s.size):=rfl
@[go_sem] theorem Mf (a b:Nat) (e:TypeId) (z:List AV) (sz:Nat) (tg:Bool) (l:List AV):Cr (some ⟨a,b,.slice e,z⟩) (.sl sz tg l)=some (True,.int .i64 l.length):=rfl
@[go_sem] theorem Kx (a b:Nat) (e:TypeId) (z:List AV) (sz id off len:Nat):Cr (some ⟨a,b,.slice e,z⟩) (.own sz id off len)=some (True,.int .i64 len):=rfl
def KB (x y:AV):fG:=match x,y with
 | .int k a,.int _ b=>some (True,.int k (if b > a then b else a))
 | _,_=>none
def KF (x y:AV):fG:=match x,y with
 | .int k a,.int _ b=>some (True,.int k (if b<a then b else a))
 | _,_=>none
@[go_sem] theorem KC (k:IntKind) (a:Int) (k':IntKind) (b:Int):KB (.int k a) (.int k' b)=some (True,.int k (if b > a then b else a)):=rfl
@[go_sem] theorem KG (k:IntKind) (a:Int) (k':IntKind) (b:Int):KF (.int k a) (.int k' b)=some (True,.int k (if b<a then b else a)):=rfl
def yh (x:Option TI) (f:Nat→BS) (v:AV):fG:=match x,v with
 | some ti,.rp cs=>some (ti.size≤cs.length∧(ti.kind.agg=true∨0<cs.length),dD ti.kind.agg (if ti.kind.agg then cs.take ti.size else cs))
 | some ti,.ptr id idx off=>match f id with
  | .live _ l=>let cs:=(l.getD idx .any).cells.drop off
   some (idx<l.length∧ti.size≤cs.length∧(ti.kind.agg=true∨0<cs.length),dD ti.kind.agg (if ti.kind.agg then cs.take ti.size else cs))
  | _=>none
 | _,_=>none
def ud (a:Nat) (g:Bool) (cs:List AV):fG:=some (a≤cs.length∧(g=true∨0<cs.length),dD g (if g then cs.take a else cs))
def qw (a:Nat) (g:Bool) (b:BS) (idx off:Nat):fG:=match b with
 | .live _ l=>some (idx<l.length∧a≤((l.getD idx .any).cells.drop off).length∧(g=true∨0<((l.getD idx .any).cells.drop off).length),dD g (if g then ((l.getD idx .any).cells.drop off).take a else (l.getD idx .any).cells.drop off))
 | _=>none
@[go_sem] theorem Kz (a b:Nat) (kd:TK) (z:List AV) (f:Nat→BS) (cs:List AV):yh (some ⟨a,b,kd,z⟩) f (.rp cs)=ud a kd.agg cs:=rfl
@[go_sem] theorem IU (a b:Nat) (kd:TK) (z:List AV) (f:Nat→BS) (id idx off:Nat):yh (some ⟨a,b,kd,z⟩) f (.ptr id idx off)=qw a kd.agg (f id) idx off:=by
 simp only [yh,qw]
@[go_sem] theorem IQ (a:Nat) (cs:List AV):ud a true cs=some (a≤cs.length,.agg (cs.take a)):=by simp [ud,dD]
@[go_sem] theorem IR (c:AV) (cs:List AV):ud 1 false (c::cs)=some (True,c):=by simp [ud,dD]
@[go_sem] theorem IS (a sz:Nat) (l:List AV) (idx off:Nat):qw a true (.live sz l) idx off=some (idx<l.length∧a≤((l.getD idx .any).cells.drop off).length,.agg (((l.getD idx .any).cells.drop off).take a)):=by simp [qw,dD]
@[go_sem] theorem IT (sz:Nat) (l:List AV) (idx off:Nat):qw 1 false (.live sz l) idx off=some (idx<l.length∧0<((l.getD idx .any).cells.drop off).length,((l.getD idx .any).cells.drop off).headD .any):=by
 simp only [qw,dD,Bool.false_eq_true,if_false,false_or]
 congr 2
 simp only [eq_iff_iff]
 omega
def JI (x:Option TI) (id:Nat) (v:AV):Option (Prop×AV×BS):=x.bind fun ti=>if v.shaped ti.size then some (True,.ptr id 0 0,.live ti.size [v]) else none
@[go_sem] theorem If (a b:Nat) (kd:TK) (z:List AV) (id:Nat) (v:AV):JI (some ⟨a,b,kd,z⟩) id v=if v.shaped a then some (True,.ptr id 0 0,.live a [v]) else none:=rfl
def A8 (x:Option TI) (id:Nat):Option (Prop×AV×BS):=x.map fun ti=>(True,.ptr id 0 0,.live ti.size [ti.zval])
@[go_sem] theorem FA (a b:Nat) (kd:TK) (z:List AV) (id:Nat):A8 (some ⟨a,b,kd,z⟩) id=some (True,.ptr id 0 0,.live a [dD kd.agg z]):=rfl
def Gn (P:Program) (x:Option TI) (id len:Nat) (idxs:List Nat) (vs:List AV):Option (Prop×AV×BS):=match lP P x with
 | some te=>if idxs=List.range len∧(vs.all fun v=>v.shaped te.size)=true∧len*te.size≤16777216 then some (True,.own te.size id 0 len,.live te.size vs) else none
 | none=>none
def JJ (x:Option TI) (id len:Nat) (idxs:List Nat) (vs:List AV):Option (Prop×AV×BS):=match x with
 | some te=>if idxs=List.range len∧(vs.all fun v=>v.shaped te.size)=true∧len*te.size≤16777216 then some (True,.own te.size id 0 len,.live te.size vs) else none
 | none=>none
@[go_sem] theorem Ih (P:Program) (a b:Nat) (e:TypeId) (z:List AV) (id len:Nat) (idxs:List Nat) (vs:List AV):Gn P (some ⟨a,b,.slice e,z⟩) id len idxs vs=JJ (ak P e) id len idxs vs:=rfl
@[go_sem] theorem Ig (a b:Nat) (kd:TK) (z:List AV) (id len:Nat) (idxs:List Nat) (vs:List AV):JJ (some ⟨a,b,kd,z⟩) id len idxs vs=if idxs=List.range len∧(vs.all fun v=>v.shaped a)=true∧len*a≤16777216 then some (True,.own a id 0 len,.live a vs) else none:=rfl
def NF (P:Program) (x:Option TI) (id:Nat) (l c:AV):Option (Prop×AV×BS):=match x,l,c with
 | some ti,.int _ n,.int _ m=>match ti.kind with
  | .slice e=>match ak P e with
   | some te=>some (0≤n∧n≤m∧(te.bytes:Int)*m≤281474976710656∧m≤9223372036854775807,.own te.size id 0 n.toNat,.live te.size (List.replicate n.toNat te.zval))
   | none=>none
  | _=>none
 | _,_,_=>none
def NE (x:Option TI) (id:Nat) (n m:Int):Option (Prop×AV×BS):=match x with
 | some te=>some (0≤n∧n≤m∧(te.bytes:Int)*m≤281474976710656∧m≤9223372036854775807,.own te.size id 0 n.toNat,.live te.size (List.replicate n.toNat te.zval))
 | none=>none
@[go_sem] theorem KI (P:Program) (a b:Nat) (e:TypeId) (z:List AV) (id:Nat) (k k':IntKind) (n m:Int):NF P (some ⟨a,b,.slice e,z⟩) id (.int k n) (.int k' m)=NE (ak P e) id n m:=by
 simp only [NF,NE]
@[go_sem] theorem KH (a b:Nat) (kd:TK) (z:List AV) (id:Nat) (n m:Int):NE (some ⟨a,b,kd,z⟩) id n m=some (0≤n∧n≤m∧(b:Int)*m≤281474976710656∧m≤9223372036854775807,.own a id 0 n.toNat,.live a (List.replicate n.toNat (dD kd.agg z))):=rfl
def DV (x:AV) (args:List AV):Option (FuncId×List AV):=match x with
 | .fn (.func g) fs cap=>some (g,fs++args++cap)
 | _=>none
def HY (x:AV):Option Nat:=match x with
 | .yld id=>some id
 | _=>none
@[go_sem] theorem Lk (id:Nat):HY (.yld id)=some id:=rfl
@[go_sem] theorem JK (id:Nat) (args:List AV):DV (.yld id) args=none:=rfl
@[go_sem] theorem Lx (g:FuncId) (fs cap args:List AV):DV (.fn (.func g) fs cap) args=some (g,fs++args++cap):=rfl
section
variable {P:Program} {zm:Bool} {ne:Nat} {Q:AEx→St→Prop} {k:List Itm} {t:Nat→AV} {f:Nat→BS} {n:Nat}
def El (P:Program) (zm:Bool) (ne:Nat) (Q:AEx→St→Prop) (ti:Option TI) (b:BS) (i idx off:Nat) (v:AV) (d:Option Tmp) (k:List Itm) (t:Nat→AV) (f:Nat→BS) (n:Nat):Prop :=
 match ti,b with
 | some ti,.live sz l=>v.shaped ti.size=true∧idx<l.length∧off+ti.size≤(l.getD idx .any).cells.length∧0<ti.size∧go P zm ne Q k (aG t d .any) (ar f i (.live sz (l.set idx ((l.getD idx .any).lay off v.cells)))) n
 | _,_=>False
@[go_sem] theorem IG {a b:Nat} {kd:TK} {z:List AV} {sz:Nat} {l:List AV} {i idx off:Nat} {v:AV} {d:Option Tmp} :
 El P zm ne Q (some ⟨a,b,kd,z⟩) (.live sz l) i idx off v d k t f n=(v.shaped a=true∧idx<l.length∧off+a≤(l.getD idx .any).cells.length∧0<a∧go P zm ne Q k (aG t d .any) (ar f i (.live sz (l.set idx ((l.getD idx .any).lay off v.cells)))) n):=rfl
def GN (P:Program) (zm:Bool) (ne:Nat) (Q:AEx→St→Prop) (ti:Option TI) (x v:AV) (d:Option Tmp) (k:List Itm) (t:Nat→AV) (f:Nat→BS) (n:Nat):Prop :=
 match x with
 | .ptr i idx off=>El P zm ne Q ti (f i) i idx off v d k t f n
 | _=>False
@[go_sem] theorem Kd {ti:Option TI} {i idx off:Nat} {v:AV} {d:Option Tmp}:GN P zm ne Q ti (.ptr i idx off) v d k t f n=El P zm ne Q ti (f i) i idx off v d k t f n:=rfl
def D_ (P : Program) (zm : Bool) (ne : Nat) (Q : AEx → St → Prop) (id : Nat) (te : Option TI) (x y : AV) (d : Option Tmp) (k : List Itm) (t : Nat → AV) (f : Nat → BS) (n : Nat) : Prop :=
  match te, x, b_ f y with
  | some te, .own sz i off len, some new => match f i with
    | .live _ l => (te.size = sz ∧ (rb y = sz ∨ new = []) ∧ 0 < sz ∧ 0 < te.bytes) ∧ cX f y ∧ off + len ≤ l.length ∧ ((len + new.length : Nat) : Int) * te.bytes ≤ 70368744177664 ∧
        go P zm ne Q k (aG t d (.own sz id 0 (len + new.length))) (ar (ar f i .dead) id (.live sz ((l.drop off).take len ++ new))) n
    | _ => False
  | some te, .sl sz tight l, some new =>
    tight = true ∧ ((te.size = sz ∨ l = []) ∧ (rb y = te.size ∨ new = []) ∧ 0 < te.size ∧ 0 < te.bytes ∧ (l = [] ∨ new ≠ [])) ∧ cX f y ∧ ((l.length + new.length : Nat) : Int) * te.bytes ≤ 70368744177664 ∧
        go P zm ne Q k (aG t d (.own te.size id 0 (l.length + new.length))) (ar f id (.live te.size (l ++ new))) n
  | _, _, _ => False
def x6 (P : Program) (zm : Bool) (ne : Nat) (Q : AEx → St → Prop) (id i off len sz a b : Nat) (blk : BS) (y : AV) (new : List AV) (d : Option Tmp) (k : List Itm) (t : Nat → AV) (f : Nat → BS) (n : Nat) : Prop :=
  match blk with
  | .live _ l => (a = sz ∧ (rb y = sz ∨ new = []) ∧ 0 < sz ∧ 0 < b) ∧ cX f y ∧ off + len ≤ l.length ∧ ((len + new.length : Nat) : Int) * b ≤ 70368744177664 ∧
        go P zm ne Q k (aG t d (.own sz id 0 (len + new.length))) (ar (ar f i .dead) id (.live sz ((l.drop off).take len ++ new))) n
  | _ => False
@[go_sem] theorem v_ {id i off len sz a b s':Nat} {l:List AV} {y:AV} {new:List AV} {d:Option Tmp}:x6 P zm ne Q id i off len sz a b (.live s' l) y new d k t f n=((a=sz∧(rb y=sz∨new=[])∧0<sz∧0<b)∧cX f y∧off+len≤l.length∧((len+new.length:Nat):Int)*b≤70368744177664 ∧
 go P zm ne Q k (aG t d (.own sz id 0 (len+new.length))) (ar (ar f i .dead) id (.live sz ((l.drop off).take len++new))) n):=rfl
def qo (P : Program) (zm : Bool) (ne : Nat) (Q : AEx → St → Prop) (id : Nat) (te : Option TI) (x y : AV) (src : Option (List AV)) (d : Option Tmp) (k : List Itm) (t : Nat → AV) (f : Nat → BS) (n : Nat) : Prop :=
  match te, x, src with
  | some te, .own sz i off len, some new => x6 P zm ne Q id i off len sz te.size te.bytes (f i) y new d k t f n
  | some te, .sl sz tight l, some new =>
    tight = true ∧ ((te.size = sz ∨ l = []) ∧ (rb y = te.size ∨ new = []) ∧ 0 < te.size ∧ 0 < te.bytes ∧ (l = [] ∨ new ≠ [])) ∧ cX f y ∧ ((l.length + new.length : Nat) : Int) * te.bytes ≤ 70368744177664 ∧
        go P zm ne Q k (aG t d (.own te.size id 0 (l.length + new.length))) (ar f id (.live te.size (l ++ new))) n
  | _, _, _ => False
theorem GH {id:Nat} {te:Option TI} {x y:AV} {d:Option Tmp}:D_ P zm ne Q id te x y d k t f n=qo P zm ne Q id te x y (b_ f y) d k t f n:=by
 unfold D_ qo
 cases te<;>cases x<;>cases b_ f y<;>simp only [x6]
@[go_sem] theorem zL {id:Nat} {a b:Nat} {kd:TK} {z:List AV} {sz i off len:Nat} {y:AV} {new:List AV} {d:Option Tmp} :
 qo P zm ne Q id (some ⟨a,b,kd,z⟩) (.own sz i off len) y (some new) d k t f n=x6 P zm ne Q id i off len sz a b (f i) y new d k t f n:=rfl
@[go_sem] theorem BT {id:Nat} {a b:Nat} {kd:TK} {z:List AV} {sz:Nat} {tg:Bool} {l:List AV} {y:AV} {new:List AV} {d:Option Tmp} :
 qo P zm ne Q id (some ⟨a,b,kd,z⟩) (.sl sz tg l) y (some new) d k t f n=(tg=true∧((a=sz∨l=[])∧(rb y=a∨new=[])∧0<a∧0<b∧(l=[]∨new≠[]))∧cX f y∧((l.length+new.length:Nat):Int)*b≤70368744177664 ∧
  go P zm ne Q k (aG t d (.own a id 0 (l.length+new.length))) (ar f id (.live a (l++new))) n):=rfl
def vO (b:BS) (off len:Nat):Option (List AV):=match b with
 | .live _ l=>some ((l.drop off).take len)
 | _=>none
@[go_sem] theorem Iw (sz:Nat) (tg:Bool) (l:List AV):b_ f (.sl sz tg l)=some l:=rfl
@[go_sem] theorem Gv (sz id off len:Nat):b_ f (.own sz id off len)=vO (f id) off len:=rfl
@[go_sem] theorem FD (sz off len:Nat) (l:List AV):vO (.live sz l) off len=some ((l.drop off).take len):=rfl
def BH (b:BS) (off len:Nat):Prop:=match b with
 | .live _ l=>off+len≤l.length
 | _=>False
@[go_sem] theorem JY (sz:Nat) (tg:Bool) (l:List AV):cX f (.sl sz tg l)=True:=rfl
@[go_sem] theorem Iz (sz id off len:Nat):cX f (.own sz id off len)=BH (f id) off len:=rfl
@[go_sem] theorem GA (sz off len:Nat) (l:List AV):BH (.live sz l) off len=(off+len≤l.length):=rfl
@[go_sem] theorem It (P:Program) (f:Nat→BS) (a b:Nat) (e:TypeId) (z:List AV) (a' b':Nat) (z':List AV) (sz id off len:Nat):jK P f (some ⟨a,b,.slice e,z⟩) (some ⟨a',b',.string,z'⟩) (.own sz id off len)=sT (tx (ak P e)) (vO (f id) off len) (sz=1∧BH (f id) off len):=rfl
@[go_sem] theorem NR (sz:Nat) (tg:Bool) (l:List AV):rb (.sl sz tg l)=sz:=rfl
@[go_sem] theorem ME (sz id off len:Nat):rb (.own sz id off len)=sz:=rfl
variable {yl q:Bool} {O:Array Oper} {n0 i:Nat} {r:List Oper} {d:Option Tmp} {ty:TypeId} {pos:String} {after:Array Edge}
@[go_sem] theorem L0 {x:Operand}:go P zm ne Q (.ops yl q O n0 i (⟨d,.move x,ty,pos,after,none⟩::r)::k) t f n=go P zm ne Q (.ops yl q O n0 (i+1) r::k) (aG t d (a_ t x)) f n:=by rw [gO rfl]; simp only [iL,kO]
@[go_sem] theorem II {x:Operand}:go P zm ne Q (.ops yl q O n0 i (⟨d,.assign x,ty,pos,after,none⟩::r)::k) t f n=go P zm ne Q (.ops yl q O n0 (i+1) r::k) (aG t d (a_ t x)) f n:=by rw [gO rfl]; simp only [iL,kO]
@[go_sem] theorem L4 {a b c:Operand}:go P zm ne Q (.ops yl q O n0 i (⟨d,.pick c a b,ty,pos,after,none⟩::r)::k) t f n=l5 P zm ne Q (C2 (a_ t c) (a_ t a) (a_ t b)) d (.ops yl q O n0 (i+1) r::k) t f n:=by rw [gO rfl]; rfl
@[go_sem] theorem L5 {op:UnOp} {ty':TypeId} {x:Operand}:go P zm ne Q (.ops yl q O n0 i (⟨d,.unOp op ty' x,ty,pos,after,none⟩::r)::k) t f n=l5 P zm ne Q (Fs op (a_ t x)) d (.ops yl q O n0 (i+1) r::k) t f n:=by rw [gO rfl]; rfl
@[go_sem] theorem GS {op:BinOp} {ty' ty2:TypeId} {x:Operand} {y:Tmp}:go P zm ne Q (.ops yl q O n0 i (⟨d,.binOp op ty' x (.tmp y) ty2,ty,pos,after,none⟩::r)::k) t f n=l5 P zm ne Q (rz P op ty' (a_ t x) (a_ t (.tmp y))) d (.ops yl q O n0 (i+1) r::k) t f n:=by rw [gO rfl]; rfl
@[go_sem] theorem GQ {op:BinOp} {ty' ty2:TypeId} {x:Operand} {kk:IntKind} {y:Int}:go P zm ne Q (.ops yl q O n0 i (⟨d,.binOp op ty' x (.const (.int kk y)) ty2,ty,pos,after,none⟩::r)::k) t f n=l5 P zm ne Q (rz P op ty' (a_ t x) (a_ t (.const (.int kk y)))) d (.ops yl q O n0 (i+1) r::k) t f n:=by rw [gO rfl]; rfl
@[go_sem] theorem GP {op:BinOp} {ty' ty2:TypeId} {x:Operand} {y:Bool}:go P zm ne Q (.ops yl q O n0 i (⟨d,.binOp op ty' x (.const (.bool y)) ty2,ty,pos,after,none⟩::r)::k) t f n=l5 P zm ne Q (rz P op ty' (a_ t x) (a_ t (.const (.bool y)))) d (.ops yl q O n0 (i+1) r::k) t f n:=by rw [gO rfl]; rfl
@[go_sem] theorem GR {op:BinOp} {ty' ty2:TypeId} {x:Operand} {y:ByteArray}:go P zm ne Q (.ops yl q O n0 i (⟨d,.binOp op ty' x (.const (.string y)) ty2,ty,pos,after,none⟩::r)::k) t f n=l5 P zm ne Q (rz P op ty' (a_ t x) (a_ t (.const (.string y)))) d (.ops yl q O n0 (i+1) r::k) t f n:=by rw [gO rfl]; rfl
def Hc (op:BinOp) (x:Option TI) (v:AV) (K:AV→Prop):Prop:=match xn x,lenOf v with
 | true,some len=>wI op len K
 | _,_=>False
@[go_sem] theorem Mh (op:BinOp) (a b:Nat) (e:TypeId) (z:List AV) (sz:Nat) (tg:Bool) (l:List AV) (K:AV→Prop):Hc op (some ⟨a,b,.slice e,z⟩) (.sl sz tg l) K=wI op l.length K:=rfl
@[go_sem] theorem KM (op:BinOp) (a b:Nat) (e:TypeId) (z:List AV) (sz id off len:Nat) (K:AV→Prop):Hc op (some ⟨a,b,.slice e,z⟩) (.own sz id off len) K=wI op len K:=rfl
@[go_sem] theorem KJ (len:Nat) (K:AV→Prop):wI .eql len K=((len=0→K (.bool true))∧K (.bool false)):=rfl
@[go_sem] theorem KK (len:Nat) (K:AV→Prop):wI .neq len K=((len=0→K (.bool false))∧K (.bool true)):=rfl
@[go_sem] theorem L3 {op:BinOp} {ty' ty2:TypeId} {x:Operand}:go P zm ne Q (.ops yl false O n0 i (⟨d,.binOp op ty' x (.const (.slice none 0 0)) ty2,ty,pos,after,none⟩::r)::k) t f n =
 Hc op (ak P ty') (a_ t x) (fun v=>go P zm ne Q (.ops yl false O n0 (i+1) r::k) (aG t d v) f n):=by
 rw [FJ rfl]; simp only [HV,or_false]; rfl
@[go_sem] theorem GU {a b:TypeId} {x:Operand}:go P zm ne Q (.ops yl q O n0 i (⟨d,.convert a b x,ty,pos,after,none⟩::r)::k) t f n=l5 P zm ne Q (jK P (fz (fe yl q O n0 i) f) (ak P a) (ak P b) (a_ t x)) d (.ops yl q O n0 (i+1) r::k) t f n:=by rw [GZ rfl]; rfl
@[go_sem] theorem FG {fn:Fn} {a b:Array Operand}:go P zm ne Q (.ops yl q O n0 i (⟨d,.makeFunc fn a b,ty,pos,after,none⟩::r)::k) t f n=go P zm ne Q (.ops yl q O n0 (i+1) r::k) (aG t d (.fn fn (a.toList.map (a_ t)) (b.toList.map (a_ t)))) f n:=by rw [gO rfl]; simp only [iL,kO]
@[go_sem] theorem Er {s:TypeId} {x:Operand} {j:Nat}:go P zm ne Q (.ops yl q O n0 i (⟨d,.fieldAddr s x j,ty,pos,after,none⟩::r)::k) t f n=l5 P zm ne Q (lR P (iY (ak P s) j) (a_ t x)) d (.ops yl q O n0 (i+1) r::k) t f n:=by
 rw [gO rfl]; simp only [iL,lR,iY]
 cases ak P s with
 | none=>rfl
 | some ti=>obtain ⟨a,b,kd,z⟩:=ti; cases kd<;>rfl
@[go_sem] theorem Kh {s:TypeId} {x:Operand} {j:Nat}:go P zm ne Q (.ops yl q O n0 i (⟨d,.field s x j,ty,pos,after,none⟩::r)::k) t f n=l5 P zm ne Q (rL P (iY (ak P s) j) (a_ t x)) d (.ops yl q O n0 (i+1) r::k) t f n:=by
 rw [gO rfl]; simp only [iL,rL,iY]
 cases ak P s with
 | none=>rfl
 | some ti=>obtain ⟨a,b,kd,z⟩:=ti; cases kd<;>rfl
@[go_sem] theorem Et {s:TypeId} {x j:Operand}:go P zm ne Q (.ops yl q O n0 i (⟨d,.indexAddr s x j,ty,pos,after,none⟩::r)::k) t f n=l5 P zm ne Q (rY P (ak P s) (a_ t x) (a_ t j)) d (.ops yl q O n0 (i+1) r::k) t f n:=by rw [gO rfl]; rfl
@[go_sem] theorem Ki {s:TypeId} {x j:Operand}:go P zm ne Q (.ops yl q O n0 i (⟨d,.index s x j,ty,pos,after,none⟩::r)::k) t f n=l5 P zm ne Q (se P (ak P s) (a_ t x) (a_ t j)) d (.ops yl q O n0 (i+1) r::k) t f n:=by rw [gO rfl]; rfl
@[go_sem] theorem GV {x:Operand} {j:Nat}:go P zm ne Q (.ops yl q O n0 i (⟨d,.extract x j,ty,pos,after,none⟩::r)::k) t f n=l5 P zm ne Q (FE (a_ t x) j) d (.ops yl q O n0 (i+1) r::k) t f n:=by rw [gO rfl]; rfl
@[go_sem] theorem Kf {s:TypeId} {ps:Array (Nat×Operand)}:go P zm ne Q (.ops yl q O n0 i (⟨d,.build s ps,ty,pos,after,none⟩::r)::k) t f n=l5 P zm ne Q (fJ P (ak P s) (ps.toList.map fun p=>(p.1,a_ t p.2))) d (.ops yl q O n0 (i+1) r::k) t f n:=by
 rw [gO rfl]; simp only [iL,fJ]
 cases ak P s with
 | none=>rfl
 | some ti=>obtain ⟨a,b,kd,z⟩:=ti; cases kd<;>simp only [xQ,qs]<;>rfl
@[go_sem] theorem FH {x:Operand}:go P zm ne Q (.ops yl q O n0 i (⟨d,.nilCheck x,ty,pos,after,none⟩::r)::k) t f n=l5 P zm ne Q (wJ (a_ t x)) d (.ops yl q O n0 (i+1) r::k) t f n:=by rw [gO rfl]; rfl
@[go_sem] theorem Kk {s:TypeId} {x:Operand} {lo hi mx:Option Operand}:go P zm ne Q (.ops yl q O n0 i (⟨d,.slice s x lo hi mx,ty,pos,after,none⟩::r)::k) t f n=l5 P zm ne Q (HI P (ak P s) (a_ t x) (y_ (lo.map (a_ t))) (y_ (hi.map (a_ t))) (y_ (mx.map (a_ t)))) d (.ops yl q O n0 (i+1) r::k) t f n:=by
 rw [gO rfl]
 have h:∀o:Option Operand,fS (a_ t) o=y_ (o.map (a_ t)):=by
  intro o
  cases o with
  | none=>rfl
  | some x=>simp only [fS,Option.map_some]; cases a_ t x<;>rfl
 simp only [iL,HI,h]
 rfl
@[go_sem] theorem Nq {s:TypeId} {x:Operand}:go P zm ne Q (.ops yl q O n0 i (⟨d,.call ⟨.builtin .len,#[x],#[s]⟩,ty,pos,after,none⟩::r)::k) t f n=l5 P zm ne Q (Cr (ak P s) (a_ t x)) d (.ops yl q O n0 (i+1) r::k) t f n:=by rw [gO rfl]; rfl
@[go_sem] theorem Ns {x y:Operand} {ts:Array TypeId}:go P zm ne Q (.ops yl q O n0 i (⟨d,.call ⟨.builtin .max,#[x,y],ts⟩,ty,pos,after,none⟩::r)::k) t f n=l5 P zm ne Q (KB (a_ t x) (a_ t y)) d (.ops yl q O n0 (i+1) r::k) t f n:=by rw [gO rfl]; rfl
@[go_sem] theorem Nt {x y:Operand} {ts:Array TypeId}:go P zm ne Q (.ops yl q O n0 i (⟨d,.call ⟨.builtin .min,#[x,y],ts⟩,ty,pos,after,none⟩::r)::k) t f n=l5 P zm ne Q (KF (a_ t x) (a_ t y)) d (.ops yl q O n0 (i+1) r::k) t f n:=by rw [gO rfl]; rfl
attribute [go_sem] J8 FF J9 Gg
@[go_sem] theorem LZ {s:TypeId} {x:Operand}:go P zm ne Q (.ops yl q O n0 i (⟨d,.load s x,ty,pos,after,none⟩::r)::k) t f n=l5 P zm ne Q (yh (ak P s) (fz (fe yl q O n0 i) f) (a_ t x)) d (.ops yl q O n0 (i+1) r::k) t f n:=by rw [GZ rfl]; rfl
@[go_sem] theorem Ke {s:TypeId}:go P zm ne Q (.ops yl q O n0 i (⟨d,.alloc s,ty,pos,after,none⟩::r)::k) t f n=Eh P zm ne Q (pI q n0 i n) (A8 (ak P s) (pI q n0 i n)) d (.ops yl q O n0 (i+1) r::k) t f (kX q n):=by rw [Es rfl]; rfl
@[go_sem] theorem Np {s:TypeId} {x:Operand}:go P zm ne Q (.ops yl q O n0 i (⟨d,.box s x,ty,pos,after,none⟩::r)::k) t f n=Eh P zm ne Q (pI q n0 i n) (JI (ak P s) (pI q n0 i n) (a_ t x)) d (.ops yl q O n0 (i+1) r::k) t f (kX q n):=by rw [Es rfl]; rfl
@[go_sem] theorem DN {s:TypeId} {len:Nat} {ps:Array (Nat×Operand)}:go P zm ne Q (.ops yl q O n0 i (⟨d,.buildSlice s len ps,ty,pos,after,none⟩::r)::k) t f n=Eh P zm ne Q (pI q n0 i n) (Gn P (ak P s) (pI q n0 i n) len (ps.toList.map (·.1)) (ps.toList.map fun p=>a_ t p.2)) d (.ops yl q O n0 (i+1) r::k) t f (kX q n):=by
 rw [Es rfl]; simp only [pH,Gn,lP,List.all_map]
 cases ak P s with
 | none=>rfl
 | some ti=>obtain ⟨a,b,kd,z⟩:=ti; cases kd<;>rfl
@[go_sem] theorem Eu {s:TypeId} {l c:Operand}:go P zm ne Q (.ops yl q O n0 i (⟨d,.makeSlice s l c,ty,pos,after,none⟩::r)::k) t f n=Eh P zm ne Q (pI q n0 i n) (NF P (ak P s) (pI q n0 i n) (a_ t l) (a_ t c)) d (.ops yl q O n0 (i+1) r::k) t f (kX q n):=by rw [Es rfl]; rfl
theorem zS {op:Op} (h:aH op = .l):go P zm ne Q (.ops false q O n0 i (⟨d,op,ty,pos,after,none⟩::r)::k) t f n=i9 P (pI q n0 i n) f (a_ t) (fun v f'=>go P zm ne Q (.ops false q O n0 (i+1) r::k) (aG t d v) f' (bif gX op then kX q n else n)) op:=by
 simp only [go,mI,du,fY,h,Bool.false_and,Bool.false_eq_true,false_implies,true_and]
@[go_sem] theorem Kl {s:TypeId} {x y:Operand}:go P zm ne Q (.ops false q O n0 i (⟨d,.store s x y,ty,pos,after,none⟩::r)::k) t f n=GN P zm ne Q (ak P s) (a_ t x) (a_ t y) d (.ops false q O n0 (i+1) r::k) t f n:=by
 rw [zS rfl]; simp only [i9,GN,El]
 cases ak P s<;>cases a_ t x<;>first|rfl|(simp only; cases f _<;>rfl)
def x9 (P:Program) (zm:Bool) (ne:Nat) (Q:AEx→St→Prop) (O:Array Oper) (n0 j:Nat) (ti:Option TI) (b:BS) (i idx off:Nat) (v:AV) (d:Option Tmp) (k:List Itm) (t:Nat→AV) (f:Nat→BS) (n:Nat):Prop :=
 match ti,b with
 | some ti,.live sz l=>v.shaped ti.size=true∧idx<l.length∧off+ti.size≤(l.getD idx .any).cells.length∧0<ti.size∧LK O n0 j f (ar f i (.live sz (l.set idx ((l.getD idx .any).lay off v.cells))))∧go P zm ne Q k (aG t d .any) (ar f i (.live sz (l.set idx ((l.getD idx .any).lay off v.cells)))) n
 | _,_=>False
@[go_sem] theorem GO {a b j:Nat} {kd:TK} {z:List AV} {sz:Nat} {l:List AV} {i idx off:Nat} {v:AV} {d:Option Tmp} :
 x9 P zm ne Q O n0 j (some ⟨a,b,kd,z⟩) (.live sz l) i idx off v d k t f n=(v.shaped a=true∧idx<l.length∧off+a≤(l.getD idx .any).cells.length∧0<a∧LK O n0 j f (ar f i (.live sz (l.set idx ((l.getD idx .any).lay off v.cells))))∧go P zm ne Q k (aG t d .any) (ar f i (.live sz (l.set idx ((l.getD idx .any).lay off v.cells)))) n):=rfl
def B6 (P:Program) (zm:Bool) (ne:Nat) (Q:AEx→St→Prop) (O:Array Oper) (n0 j:Nat) (ti:Option TI) (x v:AV) (d:Option Tmp) (k:List Itm) (t:Nat→AV) (f:Nat→BS) (n:Nat):Prop :=
 match x with
 | .ptr i idx off=>x9 P zm ne Q O n0 j ti (f i) i idx off v d k t f n
 | _=>False
@[go_sem] theorem IF {j:Nat} {ti:Option TI} {i idx off:Nat} {v:AV} {d:Option Tmp}:B6 P zm ne Q O n0 j ti (.ptr i idx off) v d k t f n=x9 P zm ne Q O n0 j ti (f i) i idx off v d k t f n:=rfl
@[go_sem] theorem IL {s:TypeId} {x y:Operand}:go P zm ne Q (.ops true true O n0 i (⟨d,.store s x y,ty,pos,after,none⟩::r)::k) t f n=B6 P zm ne Q O n0 i (ak P s) (a_ t x) (a_ t y) d (.ops true true O n0 (i+1) r::k) t f n:=by
 simp only [go,mI,du,fY,aH,i9,B6,x9,LK,gX,cond_false,Bool.and_self,true_implies]
 cases ak P s<;>cases a_ t x<;>first|rfl|(simp only; cases f _<;>first|rfl|(simp only [and_assoc]))
attribute [go_sem] gT
def Ko (kd:IntKind) (i:Nat) (kd':IntKind) (m:Int) (b:BS) (f:Nat→BS) (v:AV) (K:AV→(Nat→BS)→Prop):Prop:=match b with
 | .obj (.map es cl) tt=>(kd'=kd∧gT kd m (es.toList.map fun e=>e.key) 0=some none∧clo i v)∧K .any (ar f i (.obj (.map (es.push ⟨.int kd m,undef,cl⟩) (cl+1)) (ar tt es.size v)))
 | _=>False
@[go_sem] theorem L8 {kd kd':IntKind} {f:Nat→BS} {i:Nat} {m:Int} {v:AV} {K:AV→(Nat→BS)→Prop}:Ae (some kd) f (.mp i) (.int kd' m) v K=Ko kd i kd' m (f i) f v K:=rfl
@[go_sem] theorem Kp {kd kd':IntKind} {f:Nat→BS} {i:Nat} {m:Int} {v:AV} {K:AV→(Nat→BS)→Prop} {es:Array MapEntry} {cl:Nat} {tt:Nat→AV}:Ko kd i kd' m (.obj (.map es cl) tt) f v K =
 ((kd'=kd∧gT kd m (es.toList.map fun e=>e.key) 0=some none∧clo i v)∧K .any (ar f i (.obj (.map (es.push ⟨.int kd m,undef,cl⟩) (cl+1)) (ar tt es.size v)))):=rfl
def Cu (kd' kd:IntKind) (tt:Nat→AV) (x:Option (Option Nat)):fG:=match x with
 | some (some j)=>some (kd'=kd,tt j)
 | _=>none
@[go_sem] theorem G9 {kd' kd:IntKind} {tt:Nat→AV} {j:Nat}:Cu kd' kd tt (some (some j))=some (kd'=kd,tt j):=rfl
def FP (kd kd':IntKind) (m:Int) (b:BS):fG:=match b with
 | .obj (.map es _) tt=>Cu kd' kd tt (gT kd m (es.toList.map fun e=>e.key) 0)
 | _=>none
@[go_sem] theorem KA {kd kd':IntKind} {f:Nat→BS} {i:Nat} {m:Int}:qx (some kd) f (.mp i) (.int kd' m)=FP kd kd' m (f i):=rfl
@[go_sem] theorem IV {kd kd':IntKind} {m:Int} {es:Array MapEntry} {cl:Nat} {tt:Nat→AV}:FP kd kd' m (.obj (.map es cl) tt)=Cu kd' kd tt (gT kd m (es.toList.map fun e=>e.key) 0):=rfl
@[go_sem] theorem GX {s:TypeId}:go P zm ne Q (.ops false q O n0 i (⟨d,.makeMap s none,ty,pos,after,none⟩::r)::k) t f n=go P zm ne Q (.ops false q O n0 (i+1) r::k) (aG t d (.mp (pI q n0 i n))) (ar f (pI q n0 i n) (.obj (.map #[] 0) (fun _ => .any))) (kX q n):=by
 rw [zS rfl]; rfl
@[go_sem] theorem IJ {s:TypeId} {a b c:Operand}:go P zm ne Q (.ops false q O n0 i (⟨d,.insert s a b c,ty,pos,after,none⟩::r)::k) t f n=Ae (jc P s) f (a_ t a) (a_ t b) (a_ t c) (fun v f'=>go P zm ne Q (.ops false q O n0 (i+1) r::k) (aG t d v) f' n):=by
 rw [zS rfl]; rfl
@[go_sem] theorem IK {s:TypeId} {a b:Operand}:go P zm ne Q (.ops yl q O n0 i (⟨d,.lookup s a b false,ty,pos,after,none⟩::r)::k) t f n=l5 P zm ne Q (qx (jc P s) (fz (fe yl q O n0 i) f) (a_ t a) (a_ t b)) d (.ops yl q O n0 (i+1) r::k) t f n:=by rw [GZ rfl]; rfl
def Kb (P:Program) (zm:Bool) (ne:Nat) (Q:AEx→St→Prop) (id:Nat) (x:Option TI) (v:AV) (d:Option Tmp) (k:List Itm) (t:Nat→AV) (f:Nat→BS) (n:Nat):Prop :=
 match x,v with
 | some ti,.str s=>match ti.kind with
  | .string=>go P zm ne Q k (aG t d (.ptr id 0 0)) (ar f id (.iter s 0)) n
  | _=>False
 | _,_=>False
@[go_sem] theorem Kc {id a b:Nat} {z:List AV} {s:ByteArray}:Kb P zm ne Q id (some ⟨a,b,.string,z⟩) (.str s) d k t f n=go P zm ne Q k (aG t d (.ptr id 0 0)) (ar f id (.iter s 0)) n:=rfl
@[go_sem] theorem Kj {s:TypeId} {x:Operand}:go P zm ne Q (.ops false q O n0 i (⟨d,.range s x,ty,pos,after,none⟩::r)::k) t f n=Kb P zm ne Q (pI q n0 i n) (ak P s) (a_ t x) d (.ops false q O n0 (i+1) r::k) t f (kX q n):=by
 rw [zS rfl]; rfl
def Ej (P:Program) (zm:Bool) (ne:Nat) (Q:AEx→St→Prop) (i:Nat) (b:BS) (d:Option Tmp) (k:List Itm) (t:Nat→AV) (f:Nat→BS) (n:Nat):Prop :=
 match b with
 | .obj (.stringIter s p) _=>(p<s.size→go P zm ne Q k (aG t d (.tup [.bool true,.int .i64 p,.int .i32 (Utf8.decode s p).1])) (ar f i (.iter s (p+(Utf8.decode s p).2))) n)∧(¬p<s.size→go P zm ne Q k (aG t d (.tup [.bool false])) f n)
 | _=>False
@[go_sem] theorem IE {j:Nat} {s:ByteArray} {p:Nat}:Ej P zm ne Q j (.iter s p) d k t f n=((p<s.size→go P zm ne Q k (aG t d (.tup [.bool true,.int .i64 p,.int .i32 (Utf8.decode s p).1])) (ar f j (.iter s (p+(Utf8.decode s p).2))) n)∧(¬p<s.size→go P zm ne Q k (aG t d (.tup [.bool false])) f n)):=rfl
def GL (P:Program) (zm:Bool) (ne:Nat) (Q:AEx→St→Prop) (v:AV) (d:Option Tmp) (k:List Itm) (t:Nat→AV) (f:Nat→BS) (n:Nat):Prop :=
 match v with
 | .ptr i 0 0=>Ej P zm ne Q i (f i) d k t f n
 | _=>False
@[go_sem] theorem Ka {j:Nat}:GL P zm ne Q (.ptr j 0 0) d k t f n=Ej P zm ne Q j (f j) d k t f n:=rfl
@[go_sem] theorem L2 {x:Operand}:go P zm ne Q (.ops false q O n0 i (⟨d,.next x true,ty,pos,after,none⟩::r)::k) t f n=GL P zm ne Q (a_ t x) d (.ops false q O n0 (i+1) r::k) t f n:=by
 rw [zS rfl]
 simp only [i9]
 generalize a_ t x=v
 cases v<;>try rfl
 rename_i j a b
 rcases a with _|a<;>rcases b with _|b<;>try rfl
 simp only [GL,Ej]
 cases f j with
 | obj o tt =>
  cases o<;>try rfl
  rename_i s p
  simp only [gX,cond_false,true_and]
  by_cases h:p<s.size<;>simp [h]
 | _=>rfl
def MB (x:Option TI) (p:Prop):Prop:=match x with
 | some ti=>match ti.kind with
  | .slice _=>p
  | _=>False
 | none=>False
@[go_sem] theorem K2 {a b:Nat} {e:TypeId} {z:List AV} {p:Prop}:MB (some ⟨a,b,.slice e,z⟩) p=p:=rfl
@[go_sem] theorem IH {s s':TypeId} {x y:Operand}:go P zm ne Q (.ops false q O n0 i (⟨d,.call ⟨.builtin .append,#[x,y],#[s,s']⟩,ty,pos,after,none⟩::r)::k) t f n =
 MB (ak P s') (qo P zm ne Q (pI q n0 i n) (lP P (ak P s)) (a_ t x) (a_ t y) (b_ f (a_ t y)) d (.ops false q O n0 (i+1) r::k) t f (kX q n)):=by
 rw [zS rfl,←GH]
 simp only [i9]
 cases ak P s with
 | none=>cases ak P s' with
  | none=>rfl
  | some ti'=>obtain ⟨a',b',kd',z'⟩:=ti'; cases kd'<;>simp [MB,D_,lP]
 | some ti =>
  obtain ⟨a,b,kd,z⟩:=ti
  cases ak P s' with
  | none=>cases kd<;>rfl
  | some ti' =>
   obtain ⟨a',b',kd',z'⟩:=ti'
   cases kd'<;>cases kd<;>simp only [MB,D_,lP]<;>first|rfl|(rename_i e' e; cases ak P e<;>cases a_ t x<;>cases b_ f (a_ t y)<;>rfl)
def J_ (P:Program) (zm:Bool) (ne:Nat) (Q:AEx→St→Prop) (x:Option Tmp) (want:Bool) (d:Option Tmp) (k1 k2:List Itm) (t:Nat→AV) (f:Nat→BS) (n:Nat):Prop:=match x with
 | some e=>pM P zm ne Q (t e) e want d k1 k2 t f n
 | none=>False
@[go_sem] theorem ID {e:Tmp} {want:Bool} {k1 k2:List Itm}:J_ P zm ne Q (some e) want d k1 k2 t f n=pM P zm ne Q (t e) e want d k1 k2 t f n:=rfl
@[go_sem] theorem GW {op:Op} {j:Nat} {want:Bool}:go P zm ne Q (.ops yl q O n0 i (⟨d,op,ty,pos,after,some (j,want)⟩::r)::k) t f n =
 J_ P zm ne Q ((O[j]?).bind (·.dst)) want d (.ops yl q O n0 i (⟨d,op,ty,pos,after,none⟩::r)::k) (.ops yl q O n0 (i+1) r::k) t f n:=by
 cases h:er O j with
 | none =>
  simp only [go,mI,du,h]
  unfold er at h
  rw [h]; rfl
 | some e =>
  rw [B_ h]
  unfold er at h
  rw [h]; rfl
@[go_sem] theorem Kg {x:Operand} {args:Array Operand} {ts:Array TypeId}:go P zm ne Q (.ops yl q O n0 i (⟨d,.call ⟨.value x,args,ts⟩,ty,pos,after,none⟩::r)::k) t f n=lZ P zm ne Q q (dv O i) (DV (a_ t x) (args.toList.map (a_ t))) (HY (a_ t x)) (args.toList.map (a_ t)) d (.ops yl q O n0 (i+1) r::k) t f n:=by
 rw [En rfl]; simp only [d_,DV,AZ,HY]
 rfl
end
theorem Bl {n:Nat} {l:List AV}:cloL n l↔∀a∈l,clo n a:=by
 induction l with
 | nil=>simp [cloL]
 | cons a l ih=>simp [cloL,ih]
mutual
theorem rE {n:Nat}:∀a:AV,ro a→clo n a
 | .any,_=>by simp only [clo]
 | .bool _,_=>by simp only [clo]
 | .int _ _,_=>by simp only [clo]
 | .str _,_=>by simp only [clo]
 | .agg cs,h=>by simp only [clo]; exact cloL_ro cs (by simpa only [ro] using h)
 | .tup cs,h=>by simp only [clo]; exact cloL_ro cs (by simpa only [ro] using h)
 | .sl _ _ l,h=>by simp only [clo]; exact cloL_ro l (by simpa only [ro] using h)
 | .own _ _ _ _,h=>by simp only [ro] at h
 | .ptr _ _ _,h=>by simp only [ro] at h
 | .rp cs,h=>by simp only [clo]; exact cloL_ro cs (by simpa only [ro] using h)
 | .fn _ fs cap,h=>by
  simp only [ro] at h
  simp only [clo]; exact ⟨cloL_ro fs h.1,cloL_ro cap h.2⟩
 | .yld _,h=>by simp only [ro] at h
 | .mp _,h=>by simp only [ro] at h
 | .nilp,_=>by simp only [clo]
theorem cloL_ro {n:Nat}:∀l:List AV,roL l→cloL n l
 | [],_=>by simp only [cloL]
 | a::l,h=>by
  simp only [roL] at h
  simp only [cloL]; exact ⟨rE a h.1,cloL_ro l h.2⟩
end
mutual
def ren (rn:Nat→Nat):AV→AV
 | .own sz id off len => .own sz (rn id) off len
 | .ptr id idx off => .ptr (rn id) idx off
 | .agg cs => .agg (renL rn cs)
 | .tup cs => .tup (renL rn cs)
 | .sl sz tight l => .sl sz tight (renL rn l)
 | .rp cs => .rp (renL rn cs)
 | .fn f fs cap => .fn f (renL rn fs) (renL rn cap)
 | .yld id => .yld (rn id)
 | .mp id => .mp (rn id)
 | a=>a
def renL (rn:Nat→Nat):List AV→List AV
 | []=>[]
 | a::l=>ren rn a::renL rn l
end
theorem uE (rn:Nat→Nat) (l:List AV):renL rn l=l.map (ren rn):=by
 induction l with
 | nil=>rfl
 | cons a l ih=>simp only [renL,List.map_cons,ih]
theorem bp (rn:Nat→Nat) (l m:List AV):renL rn (l++m)=renL rn l++renL rn m:=by simp only [uE,List.map_append]
theorem be (n:Nat) (l m:List AV):cloL n (l++m)=(cloL n l∧cloL n m):=by
 simp only [Bl,List.mem_append,eq_iff_iff]
 exact ⟨fun h=>⟨fun a ha=>h a (.inl ha),fun a ha=>h a (.inr ha)⟩,fun h a ha=>ha.elim (h.1 a) (h.2 a)⟩
theorem gl (rn:Nat→Nat) (l:List AV):(renL rn l).length=l.length:=by rw [uE,List.length_map]
mutual
theorem sI (rn:Nat→Nat):∀a:AV,ro a→ren rn a=a
 | .any,_=>rfl
 | .bool _,_=>rfl
 | .int _ _,_=>rfl
 | .str _,_=>rfl
 | .agg cs,h=>by simp only [ren]; rw [renL_ro rn cs (by simpa only [ro] using h)]
 | .tup cs,h=>by simp only [ren]; rw [renL_ro rn cs (by simpa only [ro] using h)]
 | .sl _ _ l,h=>by simp only [ren]; rw [renL_ro rn l (by simpa only [ro] using h)]
 | .own _ _ _ _,h=>by simp only [ro] at h
 | .ptr _ _ _,h=>by simp only [ro] at h
 | .rp cs,h=>by simp only [ren]; rw [renL_ro rn cs (by simpa only [ro] using h)]
 | .fn _ fs cap,h=>by
  simp only [ro] at h
  simp only [ren]; rw [renL_ro rn fs h.1,renL_ro rn cap h.2]
 | .yld _,h=>by simp only [ro] at h
 | .mp _,h=>by simp only [ro] at h
 | .nilp,_=>rfl
theorem renL_ro (rn:Nat→Nat):∀l:List AV,roL l→renL rn l=l
 | [],_=>rfl
 | a::l,h=>by
  simp only [roL] at h
  simp only [renL]; rw [sI rn a h.1,renL_ro rn l h.2]
end
mutual
theorem C9:∀a:AV,ren id a=a
 | .any=>rfl
 | .bool _=>rfl
 | .int _ _=>rfl
 | .str _=>rfl
 | .agg cs=>by simp only [ren]; rw [renL_id cs]
 | .tup cs=>by simp only [ren]; rw [renL_id cs]
 | .sl _ _ l=>by simp only [ren]; rw [renL_id l]
 | .own _ _ _ _=>rfl
 | .ptr _ _ _=>rfl
 | .rp cs=>by simp only [ren]; rw [renL_id cs]
 | .fn _ fs cap=>by simp only [ren]; rw [renL_id fs,renL_id cap]
 | .yld _=>rfl
 | .mp _=>rfl
 | .nilp=>rfl
theorem renL_id:∀l:List AV,renL id l=l
 | []=>rfl
 | a::l=>by simp only [renL]; rw [C9 a,renL_id l]
end
theorem AB (rn:Nat→Nat) (a:AV):(ren rn a).isAgg=a.isAgg:=by cases a<;>rfl
mutual
theorem Rv.clo {c c':Cx} {n:Nat} (hw:c'.w=c.w) (hF:c'.F=c.F) (hU:∀id,id<n→c'.U id) {rn:Nat→Nat} (hm:∀id e,c'.mu id=some e→c.mu (rn id)=some e):∀(a:AV) (v:Value),clo n a→Rv c (ren rn a) v→Rv c' a v
 | .any,_,_,_=>trivial
 | .bool _,_,_,h=>h
 | .int _ _,_,_,h=>h
 | .str _,_,_,h=>h
 | .agg cs,v,hro,h=>by
  simp only [Rv,ren] at h ⊢
  obtain ⟨vs,rfl,h1,h⟩:=h
  exact ⟨vs,rfl,h1,Rl.clo hw hF hU hm cs _ (by simpa only [Go.Proofs.YtdnmfaljidjijaaGreat.clo] using hro) h⟩
 | .tup cs,v,hro,h=>by
  simp only [Rv,ren] at h ⊢
  obtain ⟨vs,rfl,h⟩:=h
  exact ⟨vs,rfl,Rl.clo hw hF hU hm cs _ (by simpa only [Go.Proofs.YtdnmfaljidjijaaGreat.clo] using hro) h⟩
 | .sl sz tight l,v,hro,h=>by
  simp only [Rv,ren] at h ⊢
  obtain ⟨a,cap,h0,h1,h2,h3⟩:=h
  rw [gl] at h0 h1 h2
  subst h0
  replace h3:l=[]∨_:=h3.imp_left fun h=>List.eq_nil_of_length_eq_zero (by rw [←gl rn l,h]; rfl)
  refine ⟨a,cap,rfl,h1,h2,?_⟩
  rcases h3 with h3|⟨b,o,rfl,hb,hFb,hre⟩
  ·exact .inl h3
  ·exact .inr ⟨b,o,rfl,by rw [hw]; exact hb,by rw [hF]; exact hFb,Re.clo hw hF hU hm sz _ b o (by simpa only [Go.Proofs.YtdnmfaljidjijaaGreat.clo] using hro) hre⟩
 | .own sz id off len,v,hro,h=>by
  simp only [Rv,ren] at h ⊢
  simp only [Go.Proofs.YtdnmfaljidjijaaGreat.clo] at hro
  obtain ⟨h1,h2,a,cap,rfl,h3,h4⟩:=h
  exact ⟨hU id hro,fun e he=>h2 e (hm id e he),a,cap,rfl,h3,h4.imp (fun x=>x) fun ⟨b,o,ha,h5⟩=>⟨b,o,ha,fun e he=>h5 e (hm id e he)⟩⟩
 | .ptr id idx off,v,hro,h=>by
  simp only [Rv,ren] at h ⊢
  simp only [Go.Proofs.YtdnmfaljidjijaaGreat.clo] at hro
  obtain ⟨h1,b,o,rfl,h2⟩:=h
  exact ⟨hU id hro,b,o,rfl,fun e he=>h2 e (hm id e he)⟩
 | .rp cs,v,hro,h=>by
  simp only [Rv,ren] at h ⊢
  obtain ⟨b,o,vs,rfl,hb,hFb,h0,h1,h2⟩:=h
  exact ⟨b,o,vs,rfl,by rw [hw]; exact hb,by rw [hF]; exact hFb,h0,Rl.clo hw hF hU hm cs vs (by simpa only [Go.Proofs.YtdnmfaljidjijaaGreat.clo] using hro) h1,by rw [hw]; exact h2⟩
 | .fn f fs cap,v,hro,h=>by
  simp only [Rv,ren] at h ⊢
  simp only [Go.Proofs.YtdnmfaljidjijaaGreat.clo] at hro
  obtain ⟨a,b,rfl,h1,h2⟩:=h
  exact ⟨a,b,rfl,Rl.clo hw hF hU hm fs _ hro.1 h1,Rl.clo hw hF hU hm cap _ hro.2 h2⟩
 | .yld id,v,hro,h=>by
  simp only [Rv,ren] at h ⊢
  simp only [Go.Proofs.YtdnmfaljidjijaaGreat.clo] at hro
  obtain ⟨_,l,rfl,h2⟩:=h
  exact ⟨hU id hro,l,rfl,fun e he=>h2 e (hm id e he)⟩
 | .mp id,v,hro,h=>by
  simp only [Rv,ren] at h ⊢
  simp only [Go.Proofs.YtdnmfaljidjijaaGreat.clo] at hro
  obtain ⟨_,l,rfl,h2⟩:=h
  exact ⟨hU id hro,l,rfl,fun e he=>h2 e (hm id e he)⟩
 | .nilp,_,_,h=>h
theorem Rl.clo {c c':Cx} {n:Nat} (hw:c'.w=c.w) (hF:c'.F=c.F) (hU:∀id,id<n→c'.U id) {rn:Nat→Nat} (hm:∀id e,c'.mu id=some e→c.mu (rn id)=some e):∀(l:List AV) (vs:List Value),cloL n l→Rl c (renL rn l) vs→Rl c' l vs
 | [],_,_,h=>h
 | a::l,vs,hro,h=>by
  simp only [Rl,renL] at h ⊢
  simp only [cloL] at hro
  obtain ⟨v,r,rfl,h1,h2⟩:=h
  exact ⟨v,r,rfl,Rv.clo hw hF hU hm a v hro.1 h1,Rl.clo hw hF hU hm l r hro.2 h2⟩
theorem Re.clo {c c':Cx} {n:Nat} (hw:c'.w=c.w) (hF:c'.F=c.F) (hU:∀id,id<n→c'.U id) {rn:Nat→Nat} (hm:∀id e,c'.mu id=some e→c.mu (rn id)=some e) (sz:Nat):∀(l:List AV) (b o:Nat),cloL n l→Re c sz (renL rn l) b o→Re c' sz l b o
 | [],_,_,_,_=>trivial
 | a::l,b,o,hro,h=>by
  simp only [Re,renL,AB] at h ⊢
  simp only [cloL] at hro
  obtain ⟨⟨v,h1,h2,h5,h0,h3⟩,h4⟩:=h
  exact ⟨⟨v,Rv.clo hw hF hU hm a v hro.1 h1,h2,h5,h0,by rw [hw]; exact h3⟩,Re.clo hw hF hU hm sz l b _ hro.2 h4⟩
end
mutual
theorem nR {n m:Nat} (h:n≤m):∀a:AV,clo n a→clo m a
 | .own _ id _ _,k=>by simp only [clo] at k ⊢; omega
 | .ptr id _ _,k=>by simp only [clo] at k ⊢; omega
 | .agg cs,k=>by simp only [clo] at k ⊢; exact cloL_mono h cs k
 | .tup cs,k=>by simp only [clo] at k ⊢; exact cloL_mono h cs k
 | .sl _ _ l,k=>by simp only [clo] at k ⊢; exact cloL_mono h l k
 | .rp cs,k=>by simp only [clo] at k ⊢; exact cloL_mono h cs k
 | .fn _ fs cap,k=>by simp only [clo] at k ⊢; exact ⟨cloL_mono h fs k.1,cloL_mono h cap k.2⟩
 | .yld id,k=>by simp only [clo] at k ⊢; omega
 | .mp id,k=>by simp only [clo] at k ⊢; omega
 | .any,_=>by simp only [clo]
 | .bool _,_=>by simp only [clo]
 | .int _ _,_=>by simp only [clo]
 | .str _,_=>by simp only [clo]
 | .nilp,_=>by simp only [clo]
theorem cloL_mono {n m:Nat} (h:n≤m):∀l:List AV,cloL n l→cloL m l
 | [],_=>by simp only [cloL]
 | a::l,k=>by simp only [cloL] at k ⊢; exact ⟨nR h a k.1,cloL_mono h l k.2⟩
end
mutual
theorem yB {rn:Nat→Nat} {n:Nat} (h:∀id,id<n→rn id=id):∀a:AV,clo n a→ren rn a=a
 | .own _ id _ _,k=>by simp only [clo] at k; simp only [ren,h id k]
 | .ptr id _ _,k=>by simp only [clo] at k; simp only [ren,h id k]
 | .agg cs,k=>by simp only [clo] at k; simp only [ren,renL_low h cs k]
 | .tup cs,k=>by simp only [clo] at k; simp only [ren,renL_low h cs k]
 | .sl _ _ l,k=>by simp only [clo] at k; simp only [ren,renL_low h l k]
 | .rp cs,k=>by simp only [clo] at k; simp only [ren,renL_low h cs k]
 | .fn _ fs cap,k=>by simp only [clo] at k; simp only [ren,renL_low h fs k.1,renL_low h cap k.2]
 | .yld id,k=>by simp only [clo] at k; simp only [ren,h id k]
 | .mp id,k=>by simp only [clo] at k; simp only [ren,h id k]
 | .any,_=>rfl
 | .bool _,_=>rfl
 | .int _ _,_=>rfl
 | .str _,_=>rfl
 | .nilp,_=>rfl
theorem renL_low {rn:Nat→Nat} {n:Nat} (h:∀id,id<n→rn id=id):∀l:List AV,cloL n l→renL rn l=l
 | [],_=>rfl
 | a::l,k=>by simp only [cloL] at k; simp only [renL,yB h a k.1,renL_low h l k.2]
end
theorem Ku {ne:Nat} {t t0:Nat→AV} {f f0:Nat→BS} {n n0:Nat} (rn:Nat→Nat) (hne:ne≤n0) (hlow:∀id,id<ne→rn id=id) (hinj:∀i j,(f0 i ≠ .dead∧f0 i ≠ .fresh)→(f0 j ≠ .dead∧f0 j ≠ .fresh)→rn i=rn j→i=j)
 (ht:∀k,t0 k = .any∨(t k=ren rn (t0 k)∧clo n0 (t0 k))) (hl:∀id sz l,f0 id = .live sz l→f (rn id) = .live sz (renL rn l)∧cloL n0 l) (hi:∀id o tt,f0 id = .obj o tt→f (rn id) = .obj o tt∧(id<ne∨∀k,ro (tt k)))
 (hfr:∀id,f0 id = .fresh↔n0≤id):le ne ⟨t,f,n⟩ ⟨t0,f0,n0⟩:=by
 rintro c0 N a w ⟨c,rfl,hk,hfr',ht',hN,hd,hs,h0,hne'⟩
 have hmu:∀id e,(match f0 id with | .live .. | .obj .. => c.mu (rn id)|_=>none)=some e→c.mu (rn id)=some e:=by
  intro id e h
  split at h<;>first|exact h|cases h
 have hlv:∀id e,(match f0 id with | .live .. | .obj .. => c.mu (rn id)|_=>none)=some e→f0 id ≠ .dead∧f0 id ≠ .fresh:=by
  intro id e h
  split at h
  ·rename_i h1; rw [h1]; simp
  ·rename_i h1; rw [h1]; simp
  ·cases h
 let c':Cx:={ w:=c.w,mu:=fun id=>match f0 id with | .live .. | .obj .. => c.mu (rn id)|_=>none,U:=fun id=>f0 id ≠ .fresh,F:=c.F }
 have hU:∀id,id<n0→c'.U id:=fun id hid h=>by have:=(hfr id).1 h; omega
 refine ⟨c',rfl,?_,hfr,fun k=>?_,hN,cU.back (c:=c) (c':=c') rfl (fun id e h=>⟨rn id,hmu id e h⟩) hd,?_,h0,hne⟩
 ·constructor
  ·intro id; exact Iff.rfl
  ·intro id h; show (match f0 id with | .live .. | .obj .. => c.mu (rn id)|_=>none)=none
   simp only at h
   rcases h with h|h<;>rw [h]
  ·intro id sz l h
   simp only at h
   obtain ⟨g1,g2⟩:=hl id sz l h
   obtain ⟨e,he,h1,h2,h3⟩:=hk.live (rn id) sz _ g1
   refine ⟨e,?_,h1,fun hr=>(List.eq_nil_of_length_eq_zero (by rw [←gl rn l,h2 hr]; rfl)),fun hr=>?_⟩
   ·show (match f0 id with | .live .. | .obj .. => c.mu (rn id)|_=>none)=some e
    rw [h]; exact he
   ·obtain ⟨hre,rest⟩:=h3 hr
    refine ⟨Re.clo (c:=c) (c':=c') rfl rfl hU hmu sz l _ _ g2 hre,?_⟩
    simpa only [gl] using rest
  ·intro id o tt h
   simp only at h
   obtain ⟨g1,g2⟩:=hi id o tt h
   obtain ⟨e,oo,he,h1,h2,h3,hS,h4,h5,h6⟩:=hk.obj (rn id) o tt g1
   refine ⟨e,oo,?_,h1,h2,h3,hS,h4,fun k=>?_,fun k=>?_⟩
   ·show (match f0 id with | .live .. | .obj .. => c.mu (rn id)|_=>none)=some e
    rw [h]; exact he
   ·rcases g2 with g2|g2
    ·have hid:=hlow id g2
     have hcl:=h6 k
     rw [hid] at hcl
     refine Rv.clo (c:=c) (c':=c') rfl rfl hU hmu _ _ (nR (by omega) _ hcl) ?_
     rw [yB hlow _ (nR (by omega) _ hcl)]
     exact h5 k
    ·refine Rv.clo (c:=c) (c':=c') rfl rfl hU hmu _ _ (rE (n:=n0) _ (g2 k)) ?_
     rw [sI rn _ (g2 k)]
     exact h5 k
   ·rcases g2 with g2|g2
    ·have:=h6 k; rwa [hlow id g2] at this
    ·exact rE _ (g2 k)
  ·intro i j ei ej h1 h2 hr hrj hb
   exact hinj i j (hlv i ei h1) (hlv j ej h2) (hk.inj (rn i) (rn j) ei ej (hmu i ei h1) (hmu j ej h2) hr hrj hb)
  ·intro id e h; exact hk.shut (rn id) e (hmu id e h)
 ·rcases ht k with h|⟨h1,h2⟩
  ·simp only [h,Rv]
  ·have:=ht' k
   simp only at this
   rw [h1] at this
   exact Rv.clo (c:=c) (c':=c') rfl rfl hU hmu _ _ h2 this
 ·refine ⟨hs.os,hs.tape,hs.output,hs.size,hs.keep,fun id h=>hU id (by have:=h0 id h; omega),fun id h=>?_,fun id e h hr=>hs.new (rn id) e (hmu id e h) hr,hs.F⟩
  show (match f0 id with | .live .. | .obj .. => c.mu (rn id)|_=>none)=c0.mu id∨(match f0 id with | .live .. | .obj .. => c.mu (rn id)|_=>none)=none
  rw [hlow id (h0 id h)]
  split
  ·exact hs.mu id h
  ·exact hs.mu id h
  ·exact .inr rfl
def tm:List (Nat×AV)→Nat→AV
 | []=>fun _ => .any
 | (k,v)::r=>ar (tm r) k v
def hp (n:Nat):List (Nat×BS)→Nat→BS
 | []=>fun id=>if id<n then .dead else .fresh
 | (k,b)::r=>ar (hp n r) k b
@[go_sem] theorem NW:tm []=fun _=>AV.any:=rfl
@[go_sem] theorem Fp (k:Nat) (v:AV) (r:List (Nat×AV)):tm ((k,v)::r)=ar (tm r) k v:=rfl
@[go_sem] theorem js (n k:Nat) (b:BS) (r:List (Nat×BS)):hp n ((k,b)::r)=ar (hp n r) k b:=rfl
def dJ (ne n:Nat):Nat×BS→Prop
 | (_,.live _ l)=>cloL n l
 | (_,.fresh)=>False
 | (id,.obj _ t)=>id<ne∨∀k,ro (t k)
 | (_,.dead)=>True
@[go_sem] theorem lL (ne n id sz:Nat) (l:List AV):dJ ne n (id,.live sz l)=cloL n l:=rfl
@[go_sem] theorem Ip (ne n id:Nat):dJ ne n (id,.dead)=True:=rfl
@[go_sem] theorem Iq (ne n id:Nat) (o:Obj):dJ ne n (id,.obj o (fun _ => .any))=True:=by simp [dJ,ro]
@[go_sem] theorem JP (ne n id:Nat) (o:Obj) (k:Nat) (t:Nat→AV):dJ ne n (id,.obj o (cut k t))=(id<ne∨∀j,ro (cut k t j)):=rfl
@[go_sem] theorem Ir (ne n id:Nat) (o:Obj) (t:Nat→AV):dJ ne n (id,.obj o t)=(id<ne∨∀j,ro (t j)):=rfl
@[go_sem] theorem MA {t:Nat→AV} {i:Nat} {v:AV} (h:ro v):(∀j,ro (ar t i v j))↔∀j,j≠i→ro (t j):=by
 constructor
 ·intro g j hj; have:=g j; rwa [ac _ _ _ hj] at this
 ·intro g j; by_cases hj:j=i
  ·subst hj; rw [ah]; exact h
  ·rw [ac _ _ _ hj]; exact g j hj
theorem K8 (l:List (Nat×AV)) (k:Nat):tm l k = .any∨∃p∈l,p.1=k∧tm l k=p.2:=by
 induction l with
 | nil=>exact .inl rfl
 | cons p l ih =>
  obtain ⟨j,v⟩:=p
  by_cases h:k=j
  ·subst h; exact .inr ⟨(k,v),by simp,rfl,ah _ _ _⟩
  ·rw [Fp,ac _ _ _ h]
   exact ih.imp (fun x=>x) fun ⟨p,h1,h2⟩=>⟨p,by simp [h1],h2⟩
theorem ye (n:Nat) (l:List (Nat×BS)) (k:Nat):hp n l k=(if k<n then .dead else .fresh)∨∃p∈l,p.1=k∧hp n l k=p.2:=by
 induction l with
 | nil=>exact .inl rfl
 | cons p l ih =>
  obtain ⟨j,v⟩:=p
  by_cases h:k=j
  ·subst h; exact .inr ⟨(k,v),by simp,rfl,ah _ _ _⟩
  ·rw [js,ac _ _ _ h]
   exact ih.imp (fun x=>x) fun ⟨p,h1,h2⟩=>⟨p,by simp [h1],h2⟩
def nm:List (Nat×Nat)→Nat→Nat
 | []=>fun id=>id
 | (k,v)::r=>fun id=>if id=k then v else nm r id
@[go_sem] theorem j9 (id:Nat):nm [] id=id:=rfl
@[go_sem] theorem eT (k v:Nat) (r:List (Nat×Nat)) (id:Nat):nm ((k,v)::r) id=if id=k then v else nm r id:=rfl
def gu (rn:Nat→Nat):BS→BS
 | .live sz l => .live sz (renL rn l)
 | b=>b
@[go_sem] theorem dT (rn:Nat→Nat) (sz:Nat) (l:List AV):gu rn (.live sz l) = .live sz (renL rn l):=rfl
@[go_sem] theorem KZ (rn:Nat→Nat) (o:Obj) (t:Nat→AV):gu rn (.obj o t) = .obj o t:=rfl
attribute [go_sem] ren renL bp be cloL
theorem dz {ne:Nat} {t:Nat→AV} {f:Nat→BS} {n n0:Nat} {tl:List (Nat×AV)} {hl:List (Nat×BS)} (rl:List (Nat×Nat)) (hrl:∀p∈rl,ne≤p.1) (hri:∀p∈hl,∀q∈hl,nm rl p.1=nm rl q.1→p.1=q.1) (hne:ne≤n0) (ht:∀p∈tl,t p.1=ren (nm rl) p.2∧clo n0 p.2) (hh:∀p∈hl,p.1<n0∧f (nm rl p.1)=gu (nm rl) p.2∧dJ ne n0 p) :
 le ne ⟨t,f,n⟩ ⟨tm tl,hp n0 hl,n0⟩:=by
 have hmem:∀i,(hp n0 hl i ≠ .dead∧hp n0 hl i ≠ .fresh)→∃p∈hl,p.1=i:=by
  intro i hi
  rcases ye n0 hl i with h|⟨p,h1,h2,_⟩
  ·rw [h] at hi; split at hi<;>simp at hi
  ·exact ⟨p,h1,h2⟩
 refine Ku (nm rl) hne (fun id hid=>?_) (fun i j hi hj hij=>?_) (fun k=>?_) (fun id sz l h=>?_) (fun id o tt h=>?_) fun id=>?_
 ·clear hri ht hh
  induction rl with
  | nil=>rfl
  | cons p rl ih =>
   obtain ⟨k,v⟩:=p
   have:=hrl (k,v) (by simp)
   simp only at this
   rw [eT,if_neg (by omega)]
   exact ih fun q hq=>hrl q (by simp [hq])
 ·obtain ⟨p,h1,rfl⟩:=hmem i hi
  obtain ⟨q,h2,rfl⟩:=hmem j hj
  exact hri p h1 q h2 hij
 ·rcases K8 tl k with h|⟨p,h1,rfl,h3⟩
  ·exact .inl h
  ·rw [h3]; exact .inr (ht p h1)
 ·rcases ye n0 hl id with h1|⟨p,h1,rfl,h3⟩
  ·rw [h] at h1; split at h1<;>cases h1
  ·obtain ⟨_,g2,g3⟩:=hh p h1
   obtain ⟨pi,pb⟩:=p
   simp only at h3 g2
   rw [h3] at h; subst h
   exact ⟨g2,g3⟩
 ·rcases ye n0 hl id with h1|⟨q,h1,rfl,h3⟩
  ·rw [h] at h1; split at h1<;>cases h1
  ·obtain ⟨_,g2,g3⟩:=hh q h1
   obtain ⟨pi,pb⟩:=q
   simp only at h3 g2
   rw [h3] at h; subst h
   exact ⟨g2,g3⟩
 ·rcases ye n0 hl id with h1|⟨p,h1,rfl,h3⟩
  ·rw [h1]; split<;>simp<;>omega
  ·obtain ⟨g1,g2,g3⟩:=hh p h1
   obtain ⟨pi,pb⟩:=p
   rw [h3]
   simp only at g1
   constructor
   ·intro h; simp only at h; subst h; simp only [dJ] at g3
   ·intro h; simp only at h; omega
def xr (n:Nat) (tl:List (Nat×AV)) (hl:List (Nat×BS)):St:=⟨tm tl,hp n hl,n⟩
section
variable {P:Program} {z:Bool} {ne:Nat} {Q:AEx→St→Prop} {k:List Itm} {t:Nat→AV} {f:Nat→BS} {n:Nat}
theorem Ce {c:Code} {α:Type} (tl:α→List (Nat×AV)) (hl:α→List (Nat×BS)) (m:α→Nat) (x0:α) (rl:List (Nat×Nat)) (hrl:∀p∈rl,ne≤p.1) (hri:∀p∈hl x0,∀q∈hl x0,nm rl p.1=nm rl q.1→p.1=q.1) (hne:ne≤n) (ht:∀p∈tl x0,t p.1=ren (nm rl) p.2∧clo n p.2) (hh:∀p∈hl x0,p.1<n∧f (nm rl p.1)=gu (nm rl) p.2∧dJ ne n p)
 (h:∀x,go P z ne Q (.code c :: .lp α (fun y=>xr n (tl y) (hl y)) m x::k) (tm (tl x)) (hp n (hl x)) n):go P z ne Q (.code (.loop c)::k) t f n :=
 kP (fun y=>xr n (tl y) (hl y)) m x0 (dz rl hrl hri hne ht hh) h
theorem aj {c:Code} {α:Type} (n1:Nat) (tl:α→List (Nat×AV)) (hl:α→List (Nat×BS)) (m:α→Nat) (x0:α) (rl:List (Nat×Nat)) (hrl:∀p∈rl,ne≤p.1) (hri:∀p∈hl x0,∀q∈hl x0,nm rl p.1=nm rl q.1→p.1=q.1) (hne:ne≤n1) (ht:∀p∈tl x0,t p.1=ren (nm rl) p.2∧clo n1 p.2) (hh:∀p∈hl x0,p.1<n1∧f (nm rl p.1)=gu (nm rl) p.2∧dJ ne n1 p)
 (h:∀x,go P z ne Q (.code c :: .lp α (fun y=>xr n1 (tl y) (hl y)) m x::k) (tm (tl x)) (hp n1 (hl x)) n1):go P z ne Q (.code (.loop c)::k) t f n :=
 kP (fun y=>xr n1 (tl y) (hl y)) m x0 (dz rl hrl hri hne ht hh) h
theorem ae {n0:Nat} {α:Type} {tl:α→List (Nat×AV)} {hl:α→List (Nat×BS)} {m:α→Nat} {x:α} (y:α) (hm:m y<m x) (rl:List (Nat×Nat)) (hrl:∀p∈rl,ne≤p.1) (hri:∀p∈hl y,∀q∈hl y,nm rl p.1=nm rl q.1→p.1=q.1) (hne:ne≤n0) (ht:∀p∈tl y,t p.1=ren (nm rl) p.2∧clo n0 p.2) (hh:∀p∈hl y,p.1<n0∧f (nm rl p.1)=gu (nm rl) p.2∧dJ ne n0 p) :
 go P z ne Q (.lp α (fun y=>xr n0 (tl y) (hl y)) m x::k) t f n:=by
 rw [Cf]
 exact ⟨y,dz rl hrl hri hne ht hh,hm⟩
end
theorem bO {x:Int} (h : -9223372036854775808≤x∧x≤9223372036854775807):IntKind.i64.wrap x=x:=by rw [IntKind.wrap_i64]; omega
theorem bE {x:Int} (h:0≤x∧x≤18446744073709551615):IntKind.u64.wrap x=x:=by
 simp only [IntKind.wrap,IntKind.bits,IntKind.signed]
 simp only [Bool.false_and,Bool.false_eq_true,if_false]
 omega
open Go
set_option linter.unusedSimpArgs false
set_option linter.unusedVariables false
def b9 (sz id:Nat) (l:List AV):AV:=if l=[] then .sl 0 true [] else .own sz id 0 l.length
def dZ (sz id:Nat) (l:List AV):List (Nat×BS):=if l=[] then [] else [(id,.live sz l)]
def slv (sz:Nat) (l:List AV):AV:=if l=[] then .sl 0 true [] else .sl sz false l
@[go_sem] theorem jo (sz id:Nat):b9 sz id [] = .sl 0 true []:=rfl
@[go_sem] theorem DQ (sz id:Nat):dZ sz id []=[]:=rfl
theorem aN {sz id:Nat} {l:List AV} (h:l≠[]):b9 sz id l = .own sz id 0 l.length:=by simp [b9,h]
theorem aJ {sz id:Nat} {l:List AV} (h:l≠[]):dZ sz id l=[(id,.live sz l)]:=by simp [dZ,h]
@[go_sem] theorem dF (sz id:Nat) (l:List AV) (x:AV):b9 sz id (l++[x]) = .own sz id 0 (l.length+1):=by simp [b9]
@[go_sem] theorem bh (sz id:Nat) (l:List AV) (x:AV):dZ sz id (l++[x])=[(id,.live sz (l++[x]))]:=by simp [dZ]
def kill (id:Nat) (l:List AV) (f:Nat→BS):Nat→BS:=if l=[] then f else ar f id .dead
@[go_sem] theorem L9 (id:Nat) (l:List AV) (f:Nat→BS) (j:Nat):kill id l f j=if j=id then (if l=[] then f j else .dead) else f j:=by
 unfold kill
 by_cases h:l=[]
 ·simp [h]
 ·simp only [h,if_false,ar]
@[go_sem] theorem Kw (a b:Nat) (e:TypeId) (z:List AV) (sz id:Nat) (l:List AV):Cr (some ⟨a,b,.slice e,z⟩) (b9 sz id l)=some (True,.int .i64 l.length):=by
 unfold b9; split
 ·rename_i h; subst h; rfl
 ·rfl
@[go_sem] theorem My (rn:Nat→Nat) (sz id:Nat) (l:List AV):ren rn (b9 sz id l)=b9 sz (rn id) l:=by
 unfold b9; split
 ·rfl
 ·rfl
@[go_sem] theorem Lt {sz id:Nat} {l:List AV} {Q:Nat→BS→Prop}:(∀a b,(a,b)∈dZ sz id l→Q a b)=(l≠[]→Q id (.live sz l)):=by
 by_cases h:l=[]
 ·simp [dZ,h]
 ·simp [dZ,h]
@[go_sem] theorem Jh {sz id:Nat} {l:List AV} {Q:Nat×BS→Prop}:(∀a,a∈dZ sz id l→Q a)=(l≠[]→Q (id,.live sz l)):=by
 by_cases h:l=[]
 ·simp [dZ,h]
 ·simp [dZ,h]
@[go_sem] theorem IM (n sz id:Nat) (l:List AV) (j:Nat):hp n (dZ sz id l) j=if j=id∧l≠[] then .live sz l else if j<n then .dead else .fresh:=by
 by_cases h:l=[]
 ·simp [dZ,h,hp]
 ·rw [aJ h,js,DE]; simp [h,hp]
@[go_sem] theorem FB (n sz id:Nat) (l:List AV):clo n (b9 sz id l)=(l≠[]→id<n):=by
 unfold b9; split<;>simp [clo,cloL, *]
section
variable {P:Program} {zm:Bool} {ne:Nat} {Q:AEx→St→Prop} {k:List Itm} {t:Nat→AV} {f:Nat→BS} {n:Nat}
theorem bf {id' id a b:Nat} {kd:TK} {z:List AV} {l:List AV} {y:AV} {new:List AV} {d:Option Tmp} (h1:rb y=a∨new=[]) (h2:0<a) (h3:0<b) (h4:cX f y) (h5:((l.length+new.length:Nat):Int)*b≤70368744177664) (h6:l≠[]→f id = .live a l)
 (h:go P zm ne Q k (aG t d (.own a id' 0 (l.length+new.length))) (ar (kill id l f) id' (.live a (l++new))) n):qo P zm ne Q id' (some ⟨a,b,kd,z⟩) (b9 a id l) y (some new) d k t f n:=by
 by_cases hl:l=[]
 ·subst hl
  rw [jo,BT]
  exact ⟨rfl,⟨.inr rfl,h1,h2,h3,.inl rfl⟩,h4,h5,by simpa [kill] using h⟩
 ·rw [aN hl,zL,h6 hl,v_]
  refine ⟨⟨rfl,h1,h2,h3⟩,h4,by omega,h5,?_⟩
  simpa [kill,hl] using h
end
def Wk (a b:AV):Prop:=(∀c v,Rv c a v→Rv c b v)∧(ro a→ro b)
def xC (l m:List AV):Prop:=(∀c vs,Rl c l vs→Rl c m vs)∧(roL l→roL m)
theorem Wk.refl (a:AV):Wk a a:=⟨fun _ _ h=>h,fun h=>h⟩
theorem Wk.any (a:AV):Wk a .any:=⟨fun _ _ _=>trivial,fun _=>trivial⟩
theorem Wk.sl (sz:Nat) (tight:Bool) (l:List AV):Wk (.sl sz tight l) (.sl sz false l):=by
 refine ⟨fun c v h=>?_,fun h=>h⟩
 simp only [Rv] at h ⊢
 obtain ⟨a,cap,h0,h1,h2,h3⟩:=h
 exact ⟨a,cap,h0,h1,fun h=>(by cases h),h3⟩
theorem Wk.nil (sz sz':Nat) (tight:Bool):Wk (.sl sz tight []) (.sl sz' false []):=by
 refine ⟨fun c v h=>?_,fun h=>h⟩
 simp only [Rv] at h ⊢
 obtain ⟨a,cap,h0,h1,h2,h3⟩:=h
 exact ⟨a,cap,h0,h1,fun h=>(by cases h),.inl trivial⟩
theorem Wk.slv (sz:Nat) (l:List AV):Wk (slv sz l) (.sl sz false l):=by
 unfold Go.Proofs.YtdnmfaljidjijaaGreat.slv
 split
 ·rename_i h; subst h; exact Wk.nil 0 sz true
 ·exact Wk.refl _
theorem xC.nil:xC [] []:=⟨fun _ _ h=>h,fun h=>h⟩
theorem xC.cons {a b:AV} {l m:List AV} (h:Wk a b) (k:xC l m):xC (a::l) (b::m):=by
 refine ⟨fun c vs hv=>?_,fun hr=>?_⟩
 ·simp only [Rl] at hv ⊢
  obtain ⟨v,r,h0,h1,h2⟩:=hv
  exact ⟨v,r,h0,h.1 c v h1,k.1 c r h2⟩
 ·simp only [roL] at hr ⊢
  exact ⟨h.2 hr.1,k.2 hr.2⟩
theorem xC.refl (l:List AV):xC l l:=⟨fun _ _ h=>h,fun h=>h⟩
theorem Wk.tup {l m:List AV} (h:xC l m):Wk (.tup l) (.tup m):=by
 refine ⟨fun c v hv=>?_,fun hr=>?_⟩
 ·simp only [Rv] at hv ⊢
  obtain ⟨vs,h0,h1⟩:=hv
  exact ⟨vs,h0,h.1 c _ h1⟩
 ·simp only [ro] at hr ⊢; exact h.2 hr
theorem Wk.agg {l m:List AV} (h:xC l m):Wk (.agg l) (.agg m):=by
 refine ⟨fun c v hv=>?_,fun hr=>?_⟩
 ·simp only [Rv] at hv ⊢
  obtain ⟨vs,h0,h2,h1⟩:=hv
  exact ⟨vs,h0,h2,h.1 c _ h1⟩
 ·simp only [ro] at hr ⊢; exact h.2 hr
theorem ab.weaken {P:Program} {g:FuncId} {args:List AV} {r r':AV} (h:ab P g args r) (hw:Wk r r'):ab P g args r' :=
 ⟨hw.2 h.1,fun c vs h1 h2 h3=>(h.2 c vs h1 h2 h3).mono fun v w' ⟨c',q1,q2,q3⟩=>⟨c',q1,q2,hw.1 c' v q3⟩⟩
theorem ab.args {P:Program} {g:FuncId} {args args':List AV} {r:AV} (h:ab P g args' r) (hw:xC args args'):ab P g args r :=
 ⟨h.1,fun c vs h1 h2 h3=>h.2 c vs h1 h2 (hw.1 c vs h3)⟩
open Go Go.RowKit
theorem ab.calls {P:Program} {g:FuncId} {fn:Func} {c:Code} (hf:P.funcs[g]?=some fn) (hb:fn.body=some c) (hname:(fn.name == "runtime.NumGoroutine")=false) {args:List AV} {r:AV} (h:ab P g args r) {vs:List Value} {W:World}
 (hl:∀cx:Cx,cx.w=W→(∀b,¬cx.F b)→Rl cx args vs):Calls P g vs.toArray W fun e W'=>∃v,e = .returned v∧Below W.heap.size W W'∧∃cx:Cx,cx.w=W'∧Rv cx r v:=by
 have h1:=h.2 { w:=W,mu:=fun _=>none,U:=fun _=>False,F:=fun _=>False } vs (fun _=>rfl) (fun _ h=>h) (hl _ rfl fun _ h=>h)
 have hc:(callFunc g vs.toArray).run P W = .ok (.enter g vs.toArray) W:=by
  unfold callFunc
  simp only [Sem.run_bind,run_program,Result.andThen_ok,hf,hname,Bool.false_eq_true,if_false,hb,Option.isNone_some,Sem.run_pure]
 unfold bZ at h1
 rw [hc] at h1
 refine Calls.mono h1 ?_
 rintro e W' ⟨v,rfl,c',rfl,hs,hr⟩
 exact ⟨v,rfl,⟨hs.os,hs.tape,hs.output,hs.size,fun b hb=>hs.keep b hb fun id e he=>(by cases he)⟩,c',rfl,hr⟩
end Go.Proofs.YtdnmfaljidjijaaGreat
