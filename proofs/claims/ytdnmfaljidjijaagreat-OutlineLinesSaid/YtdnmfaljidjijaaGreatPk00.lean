import Derived.WalkKit
import Derived.Orders
import Derived.Below
import Derived.Laws.Cells
import Derived.Laws.Slices
import Derived.Laws.CopyRow
import Derived.Laws.MakeOwn
import Derived.Laws.AppendOwn
import Derived.ChangeKeysEq
import Derived.Laws.Tables
import Derived.Laws.BytesString
import Derived.RangeFuncRecord
import Derived.RangeFuncLeaves
import Derived.OrdersIn
import Derived.TacticsIn
namespace Go.Proofs.YtdnmfaljidjijaaGreat
open Go
inductive AV where
 | any
 | bool (b:Bool)
 | int (k:IntKind) (n:Int)
 | str (s:ByteArray)
 | agg (cs:List AV)
 | tup (cs:List AV)
 | sl (sz:Nat) (tight:Bool) (l:List AV)
 | own (sz id off len:Nat)
 | ptr (id idx off:Nat)
 | rp (cs:List AV)
 | fn (f:Fn) (fs cap:List AV)
 | yld (id:Nat)
 | mp (id:Nat)
 | nilp
 deriving Inhabited
inductive BS where
 | fresh
 | dead
 | live (sz:Nat) (l:List AV)
 | obj (o:Obj) (t:Nat→AV)
abbrev BS.iter (s:ByteArray) (pos:Nat):BS := .obj (.stringIter s pos) (fun _ => .any)
def fu:Obj→Array Value
 | .loop r=>r.tmps
 | .map es _=>es.map (·.val)
 | _ => #[]
def kj:Obj→Obj→Prop
 | .map es n,o=>∃es',o = .map es' n∧es'.toList.map (fun e=>e.key)=es.toList.map (fun e=>e.key)
 | o,o'=>o'=o
theorem kj.refl (o:Obj):kj o o:=by
 cases o<;>simp [kj]
structure Ent where
 real:Bool
 block:Nat
 base:Nat
 sz:Nat
 total:Nat
structure Cx where
 w:World
 mu:Nat→Option Ent
 U:Nat→Prop
 F:Nat→Prop
def aD (w:World) (b o:Nat) (vs:List Value):Prop:=∀i v,vs[i]?=some v→w.cell? ⟨b,o+i,none⟩=some v
def AV.isAgg:AV→Bool
 | .agg _=>true
 | _=>false
mutual
def Rv (c:Cx):AV→Value→Prop
 | .any,_=>True
 | .bool b,v=>v = .bool b
 | .int k n,v=>v = .int k n
 | .str s,v=>v = .string s
 | .agg cs,v=>∃vs:Array Value,v = .agg vs∧(∀u∈vs.toList,u.oneCell'=true)∧Rl c cs vs.toList
 | .tup cs,v=>∃vs:Array Value,v = .tuple vs∧Rl c cs vs.toList
 | .sl sz tight l,v=>∃a cap,v = .slice a l.length cap∧l.length≤cap∧(tight=true→cap=l.length) ∧
  (l=[]∨∃b o,a=some ⟨b,o,none⟩∧b<c.w.heap.size∧¬c.F b∧Re c sz l b o)
 | .own sz id off len,v=>c.U id∧(∀e,c.mu id=some e→e.sz=sz)∧∃a cap,v = .slice a len cap∧len≤cap ∧
  (cap=0∨∃b o,a=some ⟨b,o,none⟩∧∀e,c.mu id=some e→e.real=true∧b=e.block∧o=e.base+off*e.sz∧e.base+(off+cap)*e.sz≤e.total)
 | .ptr id idx off,v=>c.U id∧∃b o,v = .pointer (some ⟨b,o,none⟩)∧∀e,c.mu id=some e→e.real=true∧b=e.block∧o=e.base+idx*e.sz+off
 | .rp cs,v=>∃b o,∃vs:List Value,v = .pointer (some ⟨b,o,none⟩)∧b<c.w.heap.size∧¬c.F b∧(∀u∈vs,u.oneCell'=true)∧Rl c cs vs∧aD c.w b o vs
 | .fn f fs cap,v=>∃a b:Array Value,v = .func f a b∧Rl c fs a.toList∧Rl c cap b.toList
 | .yld id,v=>c.U id∧∃l,v = .func (.yield l) #[] #[]∧∀e,c.mu id=some e→e.real=true∧l=e.block
 | .mp id,v=>c.U id∧∃l,v = .map (some l)∧∀e,c.mu id=some e→e.real=true∧l=e.block
 | .nilp,v=>v = .pointer none
def Rl (c:Cx):List AV→List Value→Prop
 | [],vs=>vs=[]
 | a::l,vs=>∃v r,vs=v::r∧Rv c a v∧Rl c l r
def Re (c:Cx) (sz:Nat):List AV→Nat→Nat→Prop
 | [],_,_=>True
 | a::l,b,o=>(∃v,Rv c a v∧v.cells.size=sz∧(a.isAgg=true∨v.oneCell'=true)∧(∀u∈v.cells.toList,u.oneCell'=true)∧aD c.w b o v.cells.toList)∧Re c sz l b (o+sz)
end
structure Stp (c c':Cx):Prop where
 os:c'.w.os=c.w.os
 tape:c'.w.tape=c.w.tape
 output:c'.w.output=c.w.output
 size:c.w.heap.size≤c'.w.heap.size
 keep:∀b,b<c.w.heap.size→(∀id e,c.mu id=some e→e.real=true→e.block≠b)→c'.w.heap[b]?=c.w.heap[b]?
 U:∀id,c.U id→c'.U id
 mu:∀id,c.U id→c'.mu id=c.mu id∨c'.mu id=none
 new:∀id e,c'.mu id=some e→e.real=true→c.w.heap.size≤e.block∨∃j e',c.mu j=some e'∧e'.real=true∧e'.block=e.block
 F:∀b,b<c.w.heap.size→(c'.F b→c.F b)∧((∀id e,c.mu id=some e→e.real=true→e.block≠b)→c.F b→c'.F b)
theorem Stp.refl (c:Cx):Stp c c :=
 ⟨rfl,rfl,rfl,Nat.le_refl _,fun _ _ _=>rfl,fun _ h=>h,fun _ _ => .inl rfl,fun id e h hr => .inr ⟨id,e,h,hr,rfl⟩,fun _ _=>⟨fun h=>h,fun _ h=>h⟩⟩
theorem Stp.trans {a b c:Cx} (h:Stp a b) (k:Stp b c):Stp a c where
 os:=k.os.trans h.os
 tape:=k.tape.trans h.tape
 output:=k.output.trans h.output
 size:=Nat.le_trans h.size k.size
 keep:=fun x hx hn=>(k.keep x (Nat.lt_of_lt_of_le hx h.size) (fun id e he hr hb=>by
  rcases h.new id e he hr with h1|⟨j,e',hj,hr',hb'⟩
  ·omega
  ·exact hn j e' hj hr' (hb'.trans hb))).trans (h.keep x hx hn)
 U:=fun id hid=>k.U id (h.U id hid)
 mu:=fun id hid=>by
  rcases k.mu id (h.U id hid) with h1|h1
  ·rw [h1]; exact h.mu id hid
  ·exact .inr h1
 new:=fun id e he hr=>by
  rcases k.new id e he hr with h1|⟨j,e',hj,hr',hb'⟩
  ·exact .inl (Nat.le_trans h.size h1)
  ·rcases h.new j e' hj hr' with h2|⟨i,e'',hi,hr'',hb''⟩
   ·exact .inl (by omega)
   ·exact .inr ⟨i,e'',hi,hr'',hb''.trans hb'⟩
 F:=fun x hx=>⟨fun hf=>(h.F x hx).1 ((k.F x (Nat.lt_of_lt_of_le hx h.size)).1 hf),fun hn hf=>(k.F x (Nat.lt_of_lt_of_le hx h.size)).2 (fun id e he hr hb=>by
  rcases h.new id e he hr with h1|⟨j,e',hj,hr',hb'⟩
  ·omega
  ·exact hn j e' hj hr' (hb'.trans hb)) ((h.F x hx).2 hn hf)⟩
def Cx.shut (c:Cx):Prop:=∀id e,c.mu id=some e→e.real=true→c.F e.block
theorem gr {w w':World} {b:Nat} (h:w'.heap[b]?=w.heap[b]?) (o:Nat):w'.cell? ⟨b,o,none⟩=w.cell? ⟨b,o,none⟩:=by
 unfold World.cell?; simp only [h]
theorem aD.block {w w':World} {b o:Nat} {vs:List Value} (hb:w'.heap[b]?=w.heap[b]?) (h:aD w b o vs):aD w' b o vs :=
 fun i v hv=>by rw [gr hb]; exact h i v hv
theorem Stp.at {c c':Cx} (hs:Stp c c') (hsh:c.shut) {b:Nat} (hb:b<c.w.heap.size) (hF:¬c.F b):c'.w.heap[b]?=c.w.heap[b]? :=
 hs.keep b hb fun id e he hr hbb=>hF (hbb▸hsh id e he hr)
structure Kr (c c':Cx):Prop where
 size:c.w.heap.size≤c'.w.heap.size
 cell:∀b,b<c.w.heap.size→¬c.F b→∀o v,c.w.cell? ⟨b,o,none⟩=some v→c'.w.cell? ⟨b,o,none⟩=some v
 U:∀id,c.U id→c'.U id
 mu:∀id,c.U id→c'.mu id=c.mu id∨c'.mu id=none
 F:∀b,b<c.w.heap.size→c'.F b→c.F b
theorem Kr.cells {c c':Cx} (hs:Kr c c') {b o:Nat} {vs:List Value} (hb:b<c.w.heap.size) (hF:¬c.F b) (h:aD c.w b o vs):aD c'.w b o vs :=
 fun i v hv=>hs.cell b hb hF _ v (h i v hv)
theorem Stp.kr {c c':Cx} (hs:Stp c c') (hsh:c.shut):Kr c c' :=
 ⟨hs.size,fun b hb hF o v h=>by rw [gr (hs.at hsh hb hF)]; exact h,hs.U,hs.mu,fun b hb=>(hs.F b hb).1⟩
mutual
theorem Rv.keepR {c c':Cx} (hs:Kr c c'):∀(a:AV) (v:Value),Rv c a v→Rv c' a v
 | .any,_,_=>trivial
 | .bool _,_,h=>h
 | .int _ _,_,h=>h
 | .str _,_,h=>h
 | .agg cs,v,h=>by
  simp only [Rv] at h ⊢
  obtain ⟨vs,rfl,h1,h⟩:=h
  exact ⟨vs,rfl,h1,Rl.keepR hs cs _ h⟩
 | .tup cs,v,h=>by
  simp only [Rv] at h ⊢
  obtain ⟨vs,rfl,h⟩:=h
  exact ⟨vs,rfl,Rl.keepR hs cs _ h⟩
 | .sl sz tight l,v,h=>by
  simp only [Rv] at h ⊢
  obtain ⟨a,cap,rfl,h1,h2,h3⟩:=h
  refine ⟨a,cap,rfl,h1,h2,?_⟩
  rcases h3 with h3|⟨b,o,rfl,hb,hF,hre⟩
  ·exact .inl h3
  ·exact .inr ⟨b,o,rfl,Nat.lt_of_lt_of_le hb hs.size,fun h=>hF (hs.F b hb h),Re.keepR hs sz _ b o hb hF hre⟩
 | .own sz id off len,v,h=>by
  simp only [Rv] at h ⊢
  obtain ⟨h1,h2,a,cap,rfl,h3,h4⟩:=h
  have hmu:∀e,c'.mu id=some e→c.mu id=some e:=fun e he=>by
   rcases hs.mu id h1 with h5|h5
   ·exact h5▸he
   ·rw [h5] at he; cases he
  refine ⟨hs.U _ h1,fun e he=>h2 e (hmu e he),a,cap,rfl,h3,h4.imp (fun x=>x) fun ⟨b,o,ha,h5⟩=>⟨b,o,ha,fun e he=>h5 e (hmu e he)⟩⟩
 | .ptr id idx off,v,h=>by
  simp only [Rv] at h ⊢
  obtain ⟨h1,b,o,rfl,h2⟩:=h
  have hmu:∀e,c'.mu id=some e→c.mu id=some e:=fun e he=>by
   rcases hs.mu id h1 with h5|h5
   ·exact h5▸he
   ·rw [h5] at he; cases he
  exact ⟨hs.U _ h1,b,o,rfl,fun e he=>h2 e (hmu e he)⟩
 | .rp cs,v,h=>by
  simp only [Rv] at h ⊢
  obtain ⟨b,o,vs,rfl,hb,hF,h0,h1,h2⟩:=h
  exact ⟨b,o,vs,rfl,Nat.lt_of_lt_of_le hb hs.size,fun h=>hF (hs.F b hb h),h0,Rl.keepR hs cs vs h1,hs.cells hb hF h2⟩
 | .fn f fs cap,v,h=>by
  simp only [Rv] at h ⊢
  obtain ⟨a,b,rfl,h1,h2⟩:=h
  exact ⟨a,b,rfl,Rl.keepR hs fs _ h1,Rl.keepR hs cap _ h2⟩
 | .yld id,v,h=>by
  simp only [Rv] at h ⊢
  obtain ⟨h1,l,rfl,h2⟩:=h
  have hmu:∀e,c'.mu id=some e→c.mu id=some e:=fun e he=>by
   rcases hs.mu id h1 with h5|h5
   ·exact h5▸he
   ·rw [h5] at he; cases he
  exact ⟨hs.U _ h1,l,rfl,fun e he=>h2 e (hmu e he)⟩
 | .mp id,v,h=>by
  simp only [Rv] at h ⊢
  obtain ⟨h1,l,rfl,h2⟩:=h
  have hmu:∀e,c'.mu id=some e→c.mu id=some e:=fun e he=>by
   rcases hs.mu id h1 with h5|h5
   ·exact h5▸he
   ·rw [h5] at he; cases he
  exact ⟨hs.U _ h1,l,rfl,fun e he=>h2 e (hmu e he)⟩
 | .nilp,_,h=>h
theorem Rl.keepR {c c':Cx} (hs:Kr c c'):∀(l:List AV) (vs:List Value),Rl c l vs→Rl c' l vs
 | [],_,h=>h
 | a::l,vs,h=>by
  simp only [Rl] at h ⊢
  obtain ⟨v,r,rfl,h1,h2⟩:=h
  exact ⟨v,r,rfl,Rv.keepR hs a v h1,Rl.keepR hs l r h2⟩
theorem Re.keepR {c c':Cx} (hs:Kr c c') (sz:Nat):∀(l:List AV) (b o:Nat),b<c.w.heap.size→¬c.F b→Re c sz l b o→Re c' sz l b o
 | [],_,_,_,_,_=>trivial
 | a::l,b,o,hb,hF,h=>by
  simp only [Re] at h ⊢
  obtain ⟨⟨v,h1,h2,h5,h0,h3⟩,h4⟩:=h
  exact ⟨⟨v,Rv.keepR hs a v h1,h2,h5,h0,hs.cells hb hF h3⟩,Re.keepR hs sz l b _ hb hF h4⟩
end
theorem Rv.keep {c c':Cx} (hs:Stp c c') (hsh:c.shut) (a:AV) (v:Value) (h:Rv c a v):Rv c' a v:=Rv.keepR (hs.kr hsh) a v h
theorem Rl.keep {c c':Cx} (hs:Stp c c') (hsh:c.shut) (l:List AV) (vs:List Value) (h:Rl c l vs):Rl c' l vs:=Rl.keepR (hs.kr hsh) l vs h
theorem Re.keep {c c':Cx} (hs:Stp c c') (hsh:c.shut) (sz:Nat) (l:List AV) (b o:Nat) (hb:b<c.w.heap.size) (hF:¬c.F b) (h:Re c sz l b o):Re c' sz l b o:=Re.keepR (hs.kr hsh) sz l b o hb hF h
theorem Rl.length {c:Cx}:∀ {l:List AV} {vs:List Value},Rl c l vs→vs.length=l.length
 | [],vs,h=>by simp only [Rl] at h; simp [h]
 | a::l,vs,h=>by
  simp only [Rl] at h
  obtain ⟨v,r,rfl,h1,h2⟩:=h
  simp [h2.length]
theorem Rl.get {c:Cx}:∀ {l:List AV} {vs:List Value},Rl c l vs→∀(i:Nat) a,l[i]?=some a→∃v,vs[i]?=some v∧Rv c a v
 | [],_,_,i,a,h=>by simp at h
 | x::l,vs,h,i,a,hi=>by
  simp only [Rl] at h
  obtain ⟨v,r,rfl,h1,h2⟩:=h
  cases i with
  | zero=>simp at hi; subst hi; exact ⟨v,rfl,h1⟩
  | succ i=>simpa using h2.get i a (by simpa using hi)
theorem Rl.of_get {c:Cx}:∀ {l:List AV} {vs:List Value},vs.length=l.length→(∀(i:Nat) a v,l[i]?=some a→vs[i]?=some v→Rv c a v)→Rl c l vs
 | [],vs,h,_=>by simp only [Rl]; exact List.length_eq_zero_iff.1 (by simpa using h)
 | a::l,[],h,_=>by simp at h
 | a::l,v::vs,h,hg=>by
  simp only [Rl]
  exact ⟨v,vs,rfl,hg 0 a v rfl rfl,Rl.of_get (by simpa using h) (fun i a v h1 h2=>hg (i+1) a v (by simpa using h1) (by simpa using h2))⟩
theorem Rl.append {c:Cx}:∀ {l:List AV} {vs:List Value} {m us},Rl c l vs→Rl c m us→Rl c (l++m) (vs++us)
 | [],vs,m,us,h,k=>by simp only [Rl] at h; subst h; simpa using k
 | a::l,vs,m,us,h,k=>by
  simp only [Rl] at h
  obtain ⟨v,r,rfl,h1,h2⟩:=h
  simp only [List.cons_append,Rl]
  exact ⟨v,r++us,rfl,h1,h2.append k⟩
theorem Rl.take {c:Cx}:∀ {l:List AV} {vs:List Value} (n:Nat),Rl c l vs→Rl c (l.take n) (vs.take n)
 | [],vs,n,h=>by simp only [Rl] at h; subst h; simp [Rl]
 | a::l,vs,n,h=>by
  simp only [Rl] at h
  obtain ⟨v,r,rfl,h1,h2⟩:=h
  cases n with
  | zero=>simp [Rl]
  | succ n=>simp only [List.take_succ_cons,Rl]; exact ⟨v,r.take n,rfl,h1,h2.take n⟩
theorem Rl.drop {c:Cx}:∀ {l:List AV} {vs:List Value} (n:Nat),Rl c l vs→Rl c (l.drop n) (vs.drop n)
 | [],vs,n,h=>by simp only [Rl] at h; subst h; simp [Rl]
 | a::l,vs,n,h=>by
  simp only [Rl] at h
  obtain ⟨v,r,rfl,h1,h2⟩:=h
  cases n with
  | zero=>simp only [List.drop_zero,Rl]; exact ⟨v,r,rfl,h1,h2⟩
  | succ n=>simpa using h2.drop n
theorem aD.drop {w:World} {b o:Nat} {vs:List Value} (n:Nat) (h:aD w b o vs):aD w b (o+n) (vs.drop n):=by
 intro i v hv
 rw [List.getElem?_drop] at hv
 have:=h (n+i) v hv
 rwa [←Nat.add_assoc] at this
theorem aD.take {w:World} {b o:Nat} {vs:List Value} (n:Nat) (h:aD w b o vs):aD w b o (vs.take n):=by
 intro i v hv
 rw [List.getElem?_take] at hv
 split at hv
 ·exact h i v hv
 ·cases hv
theorem aD.append {w:World} {b o:Nat} {vs us:List Value} (h:aD w b o vs) (k:aD w b (o+vs.length) us):aD w b o (vs++us):=by
 intro i v hv
 rcases Nat.lt_or_ge i vs.length with hlt|hge
 ·rw [List.getElem?_append_left hlt] at hv; exact h i v hv
 ·rw [List.getElem?_append_right hge] at hv
  have:=k (i-vs.length) v hv
  rwa [show o+vs.length+(i-vs.length)=o+i by omega] at this
theorem Re.get {c:Cx} {sz:Nat}:∀ {l:List AV} {b o:Nat},Re c sz l b o→∀(i:Nat) a,l[i]?=some a→∃v,Rv c a v∧v.cells.size=sz∧(a.isAgg=true∨v.oneCell'=true)∧(∀u∈v.cells.toList,u.oneCell'=true)∧aD c.w b (o+i*sz) v.cells.toList
 | [],_,_,_,i,a,h=>by simp at h
 | x::l,b,o,h,i,a,hi=>by
  simp only [Re] at h
  obtain ⟨h1,h2⟩:=h
  cases i with
  | zero=>simp at hi; subst hi; simpa using h1
  | succ i =>
   have:=h2.get i a (by simpa using hi)
   rwa [show o+sz+i*sz=o+(i+1)*sz by rw [Nat.succ_mul]; omega] at this
theorem Re.of_get {c:Cx} {sz:Nat}:∀ {l:List AV} {b o:Nat},(∀(i:Nat) a,l[i]?=some a→∃v,Rv c a v∧v.cells.size=sz∧(a.isAgg=true∨v.oneCell'=true)∧(∀u∈v.cells.toList,u.oneCell'=true)∧aD c.w b (o+i*sz) v.cells.toList)→Re c sz l b o
 | [],_,_,_=>trivial
 | x::l,b,o,h=>by
  simp only [Re]
  refine ⟨by simpa using h 0 x rfl,Re.of_get fun i a hi=>?_⟩
  have:=h (i+1) a (by simpa using hi)
  rwa [show o+(i+1)*sz=o+sz+i*sz by rw [Nat.succ_mul]; omega] at this
theorem Re.append {c:Cx} {sz:Nat} {l m:List AV} {b o:Nat} (h:Re c sz l b o) (k:Re c sz m b (o+l.length*sz)):Re c sz (l++m) b o:=by
 refine Re.of_get fun i a hi=>?_
 rcases Nat.lt_or_ge i l.length with hlt|hge
 ·rw [List.getElem?_append_left hlt] at hi; exact h.get i a hi
 ·rw [List.getElem?_append_right hge] at hi
  have:=k.get (i-l.length) a hi
  rwa [show o+l.length*sz+(i-l.length)*sz=o+i*sz by rw [Nat.add_assoc,←Nat.add_mul]; congr 2; omega] at this
theorem Re.slice {c:Cx} {sz:Nat} {l:List AV} {b o:Nat} (lo n:Nat) (h:Re c sz l b o):Re c sz ((l.drop lo).take n) b (o+lo*sz):=by
 refine Re.of_get fun i a hi=>?_
 rw [List.getElem?_take] at hi
 split at hi
 ·rw [List.getElem?_drop] at hi
  have:=h.get (lo+i) a hi
  rwa [show o+(lo+i)*sz=o+lo*sz+i*sz by rw [Nat.add_mul]; omega] at this
 ·cases hi
mutual
def clo (n:Nat):AV→Prop
 | .own _ id _ _=>id<n
 | .ptr id _ _=>id<n
 | .agg cs=>cloL n cs
 | .tup cs=>cloL n cs
 | .sl _ _ l=>cloL n l
 | .rp cs=>cloL n cs
 | .fn _ fs cap=>cloL n fs∧cloL n cap
 | .yld id=>id<n
 | .mp id=>id<n
 | _=>True
def cloL (n:Nat):List AV→Prop
 | []=>True
 | a::l=>clo n a∧cloL n l
end
structure HOk (c:Cx) (f:Nat→BS):Prop where
 used:∀id,c.U id↔f id ≠ .fresh
 none:∀id,(f id = .fresh∨f id = .dead)→c.mu id=none
 live:∀id sz l,f id = .live sz l→∃e,c.mu id=some e∧e.sz=sz∧(e.real=false→l=[]) ∧
  (e.real=true→Re c sz l e.block e.base∧e.base+l.length*sz≤e.total∧∃cs ty,c.w.heap[e.block]?=some (.cells cs ty (0,0))∧cs.size=e.total)
 obj:∀id o t,f id = .obj o t→∃e oo,c.mu id=some e∧e.real=true∧e.sz=0∧e.base=0∧kj o oo∧c.w.heap[e.block]?=some oo∧(∀k,Rv c (t k) ((fu oo).getD k undef))∧∀k,clo id (t k)
 inj:∀i j ei ej,c.mu i=some ei→c.mu j=some ej→ei.real=true→ej.real=true→ei.block=ej.block→i=j
 shut:c.shut
theorem HOk.of_mu {c:Cx} {f:Nat→BS} (h:HOk c f) {id:Nat} {e:Ent} (he:c.mu id=some e):(∃sz l,f id = .live sz l)∨∃o t,f id = .obj o t:=by
 cases hf:f id with
 | fresh=>rw [h.none id (.inl hf)] at he; cases he
 | dead=>rw [h.none id (.inr hf)] at he; cases he
 | live sz l=>exact .inl ⟨sz,l,rfl⟩
 | obj o t=>exact .inr ⟨o,t,rfl⟩
theorem HOk.lt {c:Cx} {f:Nat→BS} (h:HOk c f) {id:Nat} {e:Ent} (he:c.mu id=some e) (hr:e.real=true):e.block<c.w.heap.size:=by
 rcases h.of_mu he with ⟨sz,l,hl⟩|⟨o,t,hl⟩
 ·obtain ⟨e',he',_,_,h3⟩:=h.live id sz l hl
  rw [he] at he'; injection he' with he'; subst he'
  obtain ⟨_,_,cs,ty,hc,_⟩:=h3 hr
  exact (Array.getElem?_eq_some_iff.1 hc).1
 ·obtain ⟨e',_,he',_,_,_,_,hc,_⟩:=h.obj id o t hl
  rw [he] at he'; injection he' with he'; subst he'
  exact (Array.getElem?_eq_some_iff.1 hc).1
def ar {α:Type} (f:Nat→α) (i:Nat) (x:α):Nat→α:=fun j=>if j=i then x else f j
@[simp] theorem ah {α:Type} (f:Nat→α) (i:Nat) (x:α):ar f i x i=x:=by simp [ar]
theorem ac {α:Type} (f:Nat→α) (i:Nat) (x:α) {j:Nat} (h:j≠i):ar f i x j=f j:=by simp [ar,h]
theorem ig {α:Type} (f:Nat→α) {i j:Nat} (x y:α) (h:i≠j):ar (ar f i x) j y=ar (ar f j y) i x:=by
 funext k
 unfold ar
 by_cases h1:k=i<;>by_cases h2:k=j<;>simp_all
open Go
def AV.sca:AV→Bool
 | .any | .agg _ | .tup _=>false
 | _=>true
def AV.cells:AV→List AV
 | .agg cs=>cs
 | a=>[a]
def AV.shaped (a:AV) (n:Nat):Bool :=
 match a with
 | .agg cs=>cs.length == n
 | a=>a.sca && n == 1
def yT:Value→AV
 | .bool b => .bool b
 | .int k n => .int k n
 | .string s => .str s
 | .slice none 0 0 => .sl 0 true []
 | .pointer none => .nilp
 | _ => .any
inductive TK where
 | bool|int (k:IntKind)|string|slice (e:TypeId)|array (n:Nat) (e:TypeId)|struct (fs:List (Nat×TypeId))|pointer (e:TypeId)|func|other
def gz:TypeDesc→TK
 | .bool => .bool
 | .int k => .int k
 | .string => .string
 | .slice e => .slice e
 | .array n e => .array n e
 | .struct fs => .struct (fs.toList.map fun f=>(f.offset,f.type))
 | .pointer e => .pointer e
 | .func .. => .func
 | _ => .other
def TK.agg:TK→Bool
 | .struct _ | .array .. => true
 | _=>false
structure TI where
 size:Nat
 bytes:Nat
 kind:TK
 zero:List AV
def yU:Value→Bool
 | .agg _=>true
 | _=>false
def rM (P:Program):TypeDesc→Bool
 | .struct fs=>fs.toList.all fun f=>(P.info? f.type).isSome
 | _=>true
def ak (P:Program) (t:TypeId):Option TI :=
 match P.underlying t,P.info? t with
 | some d,some i =>
  match i.zero with
  | some z=>if (z.cells.toList.all (·.oneCell')) && z.cells.size == i.size && (yU z == (gz d).agg) && rM P d then some ⟨i.size,i.bytes,gz d,z.cells.toList.map yT⟩ else none
  | none=>none
 | _,_=>none
def dD (agg:Bool) (cs:List AV):AV:=if agg then .agg cs else cs.headD .any
def TI.zval (t:TI):AV:=dD t.kind.agg t.zero
def AV.lay (a:AV) (off:Nat) (new:List AV):AV :=
 match a with
 | .agg cs => .agg (cs.take off++new++cs.drop (off+new.length))
 | _=>new.headD .any
def bk (l:List AV) (i:Int):AV:=l.getD i.toNat .any
def a_ (t:Nat→AV):Operand→AV
 | .tmp n=>t n
 | .const v=>yT v
 | .func f => .fn (.func f) [] []
 | .global _ => .any
abbrev fG:=Option (Prop×AV)
def bD (op:BinOp) (x y:AV):fG :=
 match op,x,y with
 | .shl,.int k a,.int _ b=>some (0≤b,.int k (k.wrap (a*2 ^ (min b.toNat k.bits))))
 | .shr,.int k a,.int _ b=>some (0≤b,.int k (a.fdiv (2 ^ (min b.toNat k.bits))))
 | .add,.int k a,.int k' b=>if k=k' then some (True,.int k (k.wrap (a+b))) else none
 | .sub,.int k a,.int k' b=>if k=k' then some (True,.int k (k.wrap (a-b))) else none
 | .mul,.int k a,.int k' b=>if k=k' then some (True,.int k (k.wrap (a*b))) else none
 | .quo,.int k a,.int k' b=>if k=k' then some (b≠0,.int k (k.wrap (a.tdiv b))) else none
 | .rem,.int k a,.int k' b=>if k=k' then some (b≠0,.int k (a.tmod b)) else none
 | .and,.int k a,.int k' b=>if k=k' then some (True,.int k (k.wrap ((BitVec.ofInt k.bits a &&& BitVec.ofInt k.bits b).toNat))) else none
 | .or,.int k a,.int k' b=>if k=k' then some (True,.int k (k.wrap ((BitVec.ofInt k.bits a ||| BitVec.ofInt k.bits b).toNat))) else none
 | .xor,.int k a,.int k' b=>if k=k' then some (True,.int k (k.wrap ((BitVec.ofInt k.bits a ^^^ BitVec.ofInt k.bits b).toNat))) else none
 | .eql,.int k a,.int k' b=>if k=k' then some (True,.bool (decide (a=b))) else none
 | .neq,.int k a,.int k' b=>if k=k' then some (True,.bool (!decide (a=b))) else none
 | .lss,.int k a,.int k' b=>if k=k' then some (True,.bool (decide (a<b))) else none
 | .leq,.int k a,.int k' b=>if k=k' then some (True,.bool (decide (a≤b))) else none
 | .gtr,.int k a,.int k' b=>if k=k' then some (True,.bool (decide (a > b))) else none
 | .geq,.int k a,.int k' b=>if k=k' then some (True,.bool (decide (a≥b))) else none
 | .add,.str a,.str b=>some (((a.size+b.size:Nat):Int)≤9223372036854775807,.str (a++b))
 | .eql,.str a,.str b=>some (True,.bool (a.toList == b.toList))
 | .neq,.str a,.str b=>some (True,.bool (!(a.toList == b.toList)))
 | .eql,.bool a,.bool b=>some (True,.bool (a == b))
 | .neq,.bool a,.bool b=>some (True,.bool (!(a == b)))
 | _,_,_=>none
def Fs (op:UnOp) (x:AV):fG :=
 match op,x with
 | .not,.bool b=>some (True,.bool (!b))
 | .neg,.int k n=>some (True,.int k (k.wrap (0-n)))
 | .xor,.int k n=>some (True,.int k (k.wrap ((BitVec.ofInt k.bits (if k.signed then -1 else k.max) ^^^ BitVec.ofInt k.bits n).toNat)))
 | _,_=>none
def so:Option Int→Int→Nat→Prop
 | some m,h,len=>h≤m∧m≤(len:Int)
 | none,_,_=>True
def dC:Option Int→Nat→Nat
 | some m,_=>m.toNat
 | none,cap=>cap
def c9 (x:AV) (lo hi mx:Option Int):fG :=
 match x with
 | .sl sz tight l =>
  let h:=hi.getD l.length
  let o:=lo.getD 0
  some (0≤o∧o≤h∧h≤(l.length:Int)∧so mx h l.length,
   .sl sz (match mx with|some m=>decide (m=h)|none=>tight && hi.isNone) ((l.take h.toNat).drop o.toNat))
 | .own sz id off len =>
  let h:=hi.getD len
  let o:=lo.getD 0
  some (0≤o∧o≤h∧h≤(len:Int)∧so mx h len,.own sz id (off+o.toNat) (h.toNat-o.toNat))
 | .str s =>
  match mx with
  | some _=>none
  | none =>
   let h:=hi.getD s.size
   let o:=lo.getD 0
   some (0≤o∧o≤h∧h≤(s.size:Int),.str (s.extract o.toNat h.toNat))
 | _=>none
def fS (ρ:Operand→AV):Option Operand→Option (Option Int)
 | none=>some none
 | some x=>match ρ x with
  | .int _ n=>some (some n)
  | _=>none
def gM (place:Nat→Option (Nat×Nat)) (ρ:Operand→AV):List (Nat×Operand)→List AV→Option (List AV)
 | [],cs=>some cs
 | (i,x)::r,cs =>
  match place i with
  | none=>none
  | some (off,size)=>if (ρ x).shaped size && decide (off+size≤cs.length) then gM place ρ r (cs.take off++(ρ x).cells++cs.drop (off+size)) else none
def kQ (k:IntKind):List AV→Option (List Int)
 | []=>some []
 | .int k' n::r=>if k'=k then (kQ k r).map (n :: ·) else none
 | _=>none
def nM (P : Program) (op : BinOp) (t : TypeId) (cs : List AV) (y : AV) : fG :=
  match ak P t, y with
  | some ti, .agg ds => match ti.kind with
    | .array n e => match ak P e with
      | some te => match te.kind with
        | .int k => match kQ k cs, kQ k ds with
          | some a, some b => if a.length = n ∧ b.length = n ∧ te.size = 1 then (match op with
            | .eql => some (P.eqGuardType P.depth t = false, .bool (a == b))
            | .neq => some (P.eqGuardType P.depth t = false, .bool (!(a == b)))
            | _ => none) else none
          | _, _ => none
        | _ => none
      | none => none
    | _ => none
  | _, _ => none
def iL (P : Program) (ρ : Operand → AV) : Op → fG
  | .move x | .assign x => some (True, ρ x)
  | .pick c a b => match ρ c with
    | .bool t => some (True, if t then ρ a else ρ b)
    | _ => none
  | .unOp op _ x => Fs op (ρ x)
  | .binOp op t x y _ => match ρ x with
    | .bool a => match ak P t with
      | some ti => match ti.kind with
        | .bool => bD op (.bool a) (ρ y)
        | _ => none
      | none => none
    | .int k a => bD op (.int k a) (ρ y)
    | .str a => bD op (.str a) (ρ y)
    | .agg cs => nM P op t cs (ρ y)
    | _ => none
  | .makeFunc fn first cap => some (True, .fn fn (first.toList.map ρ) (cap.toList.map ρ))
  | .fieldAddr s x f =>
    match ak P s with
    | some ti => match ti.kind with
      | .struct fs => match fs[f]? with
        | some (off, t) => match ak P t with
          | some tf => if tf.size = 0 then none else match ρ x with
            | .ptr id idx o => some (True, .ptr id idx (o + off))
            | .rp cs => some (True, .rp (cs.drop off))
            | _ => none
          | none => none
        | none => none
      | _ => none
    | none => none
  | .field s x f =>
    match ak P s with
    | some ti => match ti.kind with
      | .struct fs => match fs[f]? with
        | some (off, t) => match ak P t, ρ x with
          | some tf, .agg cs => some (off + tf.size ≤ cs.length, dD tf.kind.agg ((cs.drop off).take tf.size))
          | _, _ => none
        | none => none
      | _ => none
    | none => none
  | .indexAddr t x i =>
    match ak P t, ρ x, ρ i with
    | some ti, .sl sz _ l, .int _ i => match ti.kind with
      | .slice e => match ak P e with
        | some te => if te.size = sz then some (0 ≤ i ∧ i < (l.length : Int), .rp (bk l i).cells) else none
        | none => none
      | _ => none
    | some ti, .own sz id off len, .int _ i => match ti.kind with
      | .slice e => match ak P e with
        | some te => if te.size = sz then some (0 ≤ i ∧ i < (len : Int), .ptr id (off + i.toNat) 0) else none
        | none => none
      | _ => none
    | some ti, .ptr id idx off, .int _ i => match ti.kind with
      | .array n e => match ak P e with
        | some te => some (0 ≤ i ∧ i < (n : Int), .ptr id idx (off + i.toNat * te.size))
        | none => none
      | _ => none
    | some ti, .rp cs, .int _ i => match ti.kind with
      | .array n e => match ak P e with
        | some te => some (0 ≤ i ∧ i < (n : Int), .rp (cs.drop (i.toNat * te.size)))
        | none => none
      | _ => none
    | _, _, _ => none
  | .index t x i =>
    match ak P t, ρ x, ρ i with
    | some ti, .str s, .int _ i => match ti.kind with
      | .string => some (0 ≤ i ∧ i < (s.size : Int), .int .u8 ((s.data.toList.getD i.toNat 0).toNat : Nat))
      | _ => none
    | some ti, .agg cs, .int _ i => match ti.kind with
      | .array n e => match ak P e with
        | some te => some (0 ≤ i ∧ i < (n : Int) ∧ i.toNat * te.size + te.size ≤ cs.length, dD te.kind.agg ((cs.drop (i.toNat * te.size)).take te.size))
        | none => none
      | _ => none
    | _, _, _ => none
  | .extract x i => match ρ x with
    | .tup cs => some (i < cs.length, cs.getD i .any)
    | _ => none
  | .build t parts =>
    match ak P t with
    | some ti => match ti.kind with
      | .struct fs => (gM (fun i => (fs[i]?).bind fun p => (ak P p.2).map fun tf => (p.1, tf.size)) ρ parts.toList ti.zero).map fun cs => (True, .agg cs)
      | .array _ e => match ak P e with
        | some te => (gM (fun i => some (i * te.size, te.size)) ρ parts.toList ti.zero).map fun cs => (True, .agg cs)
        | none => none
      | _ => none
    | none => none
  | .nilCheck x => match ρ x with
    | .ptr id idx off => some (True, .ptr id idx off)
    | .rp cs => some (True, .rp cs)
    | _ => none
  | .slice t x lo hi mx =>
    match ak P t, fS ρ lo, fS ρ hi, fS ρ mx with
    | some ti, some lo, some hi, some mx => match ti.kind, ρ x with
      | .slice e, .sl sz tight l => match ak P e with
        | some te => if te.size = sz ∨ l = [] then (if mx.isSome && hi.isNone then none else c9 (.sl sz tight l) lo hi mx) else none
        | none => none
      | .slice e, .own sz id off len => match ak P e with
        | some te => if te.size = sz then (if mx.isSome && hi.isNone then none else c9 (.own sz id off len) lo hi mx) else none
        | none => none
      | .string, .str s => c9 (.str s) lo hi mx
      | _, _ => none
    | _, _, _, _ => none
  | .call c =>
    match c.callee with
    | .builtin .len => match c.argTypes.toList, c.args.toList with
      | [t], [x] => match ak P t, ρ x with
        | some ti, .str s => match ti.kind with
          | .string => some (True, .int .i64 s.size)
          | _ => none
        | some ti, .sl _ _ l => match ti.kind with
          | .slice _ => some (True, .int .i64 l.length)
          | _ => none
        | some ti, .own _ _ _ len => match ti.kind with
          | .slice _ => some (True, .int .i64 len)
          | _ => none
        | some ti, _ => match ti.kind with
          | .array n _ => some (True, .int .i64 n)
          | _ => none
        | _, _ => none
      | _, _ => none
    | .builtin .max => match c.args.toList with
      | [x, y] => match ρ x, ρ y with
        | .int k a, .int _ b => some (True, .int k (if b > a then b else a))
        | _, _ => none
      | _ => none
    | .builtin .min => match c.args.toList with
      | [x, y] => match ρ x, ρ y with
        | .int k a, .int _ b => some (True, .int k (if b < a then b else a))
        | _, _ => none
      | _ => none
    | _ => none
  | _ => none
def b_ (f:Nat→BS):AV→Option (List AV)
 | .sl _ _ l=>some l
 | .own _ id off len=>match f id with
  | .live _ l=>some ((l.drop off).take len)
  | _=>none
 | _=>none
def cX (f:Nat→BS):AV→Prop
 | .own _ id off len=>match f id with
  | .live _ l=>off+len≤l.length
  | _=>False
 | _=>True
def rb:AV→Nat
 | .sl sz _ _=>sz
 | .own sz _ _ _=>sz
 | _=>0
def A6:List AV→Option (List Int)
 | []=>some []
 | a::l=>match a with
  | .int .u8 n=>(A6 l).map (n :: ·)
  | _=>none
def Dx (ns:List Int):ByteArray:=ns.foldl (fun r n=>r.push (UInt8.ofNat n.toNat)) ByteArray.empty
def tx (x:Option TI):Bool:=match x with
 | some ti=>match ti.kind with
  | .int .u8=>true
  | _=>false
 | none=>false
def sT (b:Bool) (l:Option (List AV)) (p:Prop):fG:=match b,l.bind A6 with
 | true,some ns=>some (ns≠[]∧p,.str (Dx ns))
 | _,_=>none
def jT (P:Program) (x y:Option TI) (l:Option (List AV)) (p:Prop):fG:=match x,y with
 | some ts,some td=>match ts.kind,td.kind with
  | .slice e,.string=>sT (tx (ak P e)) l p
  | _,_=>none
 | _,_=>none
theorem eN (P:Program) (x y:Option TI) (p:Prop):jT P x y none p=none:=by
 unfold jT
 cases x with
 | none=>rfl
 | some ts=>cases y with
  | none=>rfl
  | some td =>
   simp only
   split
   ·simp only [sT,Option.bind_none]
    split
    ·rename_i h; cases h
    ·rfl
   ·rfl
def jK (P:Program) (f:Nat→BS) (x y:Option TI) (v:AV):fG:=match v with
 | .int _ n=>match x,y with
  | some _,some ti=>match ti.kind with
   | .int k=>some (True,.int k (k.wrap n))
   | _=>none
  | _,_=>none
 | .sl sz tg l=>jT P x y (b_ f (.sl sz tg l)) (sz=1)
 | .own sz id off len=>jT P x y (b_ f (.own sz id off len)) (sz=1∧cX f (.own sz id off len))
 | _=>none
def jc (P:Program) (t:TypeId):Option IntKind:=match P.underlying t with
 | some (.map k _)=>match P.underlying k with
  | some (.int kd)=>some kd
  | _=>none
 | _=>none
def gT (kd:IntKind) (n:Int):List Value→Nat→Option (Option Nat)
 | [],_=>some none
 | .int kd' m::r,i=>if kd'=kd then (if n=m then some (some i) else gT kd n r (i+1)) else none
 | _::_,_=>none
def qx (x:Option IntKind) (f:Nat→BS) (m k:AV):fG:=match x,m,k with
 | some kd,.mp i,.int kd' n=>match f i with
  | .obj (.map es _) tt=>match gT kd n (es.toList.map fun e=>e.key) 0 with
   | some (some j)=>some (kd'=kd,tt j)
   | _=>none
  | _=>none
 | _,_,_=>none
def Ae (x:Option IntKind) (f:Nat→BS) (m k v:AV) (K:AV→(Nat→BS)→Prop):Prop:=match x,m,k with
 | some kd,.mp i,.int kd' n=>match f i with
  | .obj (.map es cl) tt=>(kd'=kd∧gT kd n (es.toList.map fun e=>e.key) 0=some none∧clo i v)∧K .any (ar f i (.obj (.map (es.push ⟨.int kd n,undef,cl⟩) (cl+1)) (ar tt es.size v)))
  | _=>False
 | _,_,_=>False
def aS (P : Program) (f : Nat → BS) (ρ : Operand → AV) : Op → fG
  | .load t a =>
    match ak P t, ρ a with
    | some ti, .rp cs => some (ti.size ≤ cs.length ∧ (ti.kind.agg = true ∨ 0 < cs.length), dD ti.kind.agg (if ti.kind.agg then cs.take ti.size else cs))
    | some ti, .ptr id idx off => match f id with
      | .live _ l => let cs := (l.getD idx .any).cells.drop off
        some (idx < l.length ∧ ti.size ≤ cs.length ∧ (ti.kind.agg = true ∨ 0 < cs.length), dD ti.kind.agg (if ti.kind.agg then cs.take ti.size else cs))
      | _ => none
    | _, _ => none
  | .convert src dst x => jK P f (ak P src) (ak P dst) (ρ x)
  | .lookup t m k ok => bif ok then none else qx (jc P t) f (ρ m) (ρ k)
  | _ => none
def pH (P : Program) (id : Nat) (ρ : Operand → AV) : Op → Option (Prop × AV × BS)
  | .alloc t => (ak P t).map fun ti => (True, .ptr id 0 0, .live ti.size [ti.zval])
  | .box t x => (ak P t).bind fun ti => if (ρ x).shaped ti.size then some (True, .ptr id 0 0, .live ti.size [ρ x]) else none
  | .buildSlice t len parts =>
    match ak P t with
    | some ti => match ti.kind with
      | .slice e => match ak P e with
        | some te =>
          if parts.toList.map (·.1) = List.range len ∧ (parts.toList.all fun p => (ρ p.2).shaped te.size) = true ∧ len * te.size ≤ 16777216 then some (True, .own te.size id 0 len, .live te.size (parts.toList.map fun p => ρ p.2)) else none
        | none => none
      | _ => none
    | none => none
  | .makeSlice t l c =>
    match ak P t, ρ l, ρ c with
    | some ti, .int _ n, .int _ m => match ti.kind with
      | .slice e => match ak P e with
        | some te => some (0 ≤ n ∧ n ≤ m ∧ (te.bytes : Int) * m ≤ 281474976710656 ∧ m ≤ 9223372036854775807, .own te.size id 0 n.toNat, .live te.size (List.replicate n.toNat te.zval))
        | none => none
      | _ => none
    | _, _, _ => none
  | _ => none
def i9 (P : Program) (id : Nat) (f : Nat → BS) (ρ : Operand → AV) (K : AV → (Nat → BS) → Prop) : Op → Prop
  | .store t x v =>
    match ak P t, ρ x with
    | some ti, .ptr i idx off => match f i with
      | .live sz l => (ρ v).shaped ti.size = true ∧ idx < l.length ∧ off + ti.size ≤ (l.getD idx .any).cells.length ∧ 0 < ti.size ∧
          K .any (ar f i (.live sz (l.set idx ((l.getD idx .any).lay off (ρ v).cells))))
      | _ => False
    | _, _ => False
  | .makeMap _ r => match r with
    | none => K (.mp id) (ar f id (.obj (.map #[] 0) (fun _ => .any)))
    | some _ => False
  | .insert t m k v => Ae (jc P t) f (ρ m) (ρ k) (ρ v) K
  | .range t x =>
    match ak P t, ρ x with
    | some ti, .str s => match ti.kind with
      | .string => K (.ptr id 0 0) (ar f id (.iter s 0))
      | _ => False
    | _, _ => False
  | .next it b =>
    match ρ it with
    | .ptr i 0 0 => match f i with
      | .obj (.stringIter s p) _ => b = true ∧ if p < s.size then K (.tup [.bool true, .int .i64 p, .int .i32 (Utf8.decode s p).1]) (ar f i (.iter s (p + (Utf8.decode s p).2))) else K (.tup [.bool false]) f
      | _ => False
    | _ => False
  | .call c =>
    match c.callee, c.argTypes.toList, c.args.toList with
    | .builtin .append, [t, t'], [x, y] =>
      match ak P t, ak P t' with
      | some ti, some ti' => match ti.kind, ti'.kind with
        | .slice e, .slice _ => match ak P e with
          | some te =>
            match ρ x, b_ f (ρ y) with
            | .own sz i off len, some new => match f i with
              | .live _ l => (te.size = sz ∧ (rb (ρ y) = sz ∨ new = []) ∧ 0 < sz ∧ 0 < te.bytes) ∧ cX f (ρ y) ∧ off + len ≤ l.length ∧ ((len + new.length : Nat) : Int) * te.bytes ≤ 70368744177664 ∧
                  K (.own sz id 0 (len + new.length)) (ar (ar f i .dead) id (.live sz ((l.drop off).take len ++ new)))
              | _ => False
            | .sl sz tight l, some new =>
              tight = true ∧ ((te.size = sz ∨ l = []) ∧ (rb (ρ y) = te.size ∨ new = []) ∧ 0 < te.size ∧ 0 < te.bytes ∧ (l = [] ∨ new ≠ [])) ∧ cX f (ρ y) ∧ ((l.length + new.length : Nat) : Int) * te.bytes ≤ 70368744177664 ∧
                  K (.own te.size id 0 (l.length + new.length)) (ar f id (.live te.size (l ++ new)))
            | _, _ => False
          | none => False
        | _, _ => False
      | _, _ => False
    | _, _, _ => False
  | _ => False
def gX:Op→Bool
 | .range .. => true
 | .makeMap .. => true
 | .call _=>true
 | _=>false
def wI (op:BinOp) (len:Nat) (K:AV→Prop):Prop:=match op with
 | .eql=>(len=0→K (.bool true))∧K (.bool false)
 | .neq=>(len=0→K (.bool false))∧K (.bool true)
 | _=>False
def lenOf:AV→Option Nat
 | .sl _ _ l=>some l.length
 | .own _ _ _ len=>some len
 | _=>none
def xn (x:Option TI):Bool:=match x with
 | some ti=>match ti.kind with
  | .slice _=>true
  | _=>false
 | none=>false
def KL (P:Program) (ρ:Operand→AV) (K:AV→Prop):Op→Prop
 | .binOp op t x _ _=>match xn (ak P t),lenOf (ρ x) with
  | true,some len=>wI op len K
  | _,_=>False
 | _=>False
inductive Cls where|v|r|g|l|c|n
 deriving DecidableEq
def aH:Op→Cls
 | .load .. | .convert .. | .lookup .. => .r
 | .alloc .. | .box .. | .buildSlice .. | .makeSlice .. => .g
 | .store .. => .l
 | .call c=>match c.callee with
  | .builtin .append => .l
  | .builtin .clear => .n
  | .builtin _ => .v
  | _ => .c
 | .binOp _ _ _ (.const (.slice none 0 0)) _ => .n
 | .move .. | .assign .. | .pick .. | .unOp .. | .binOp .. | .makeFunc .. | .fieldAddr .. | .field .. | .indexAddr .. | .index .. | .extract .. | .build .. | .nilCheck .. | .slice .. => .v
 | _ => .l
theorem JR {op:Op} (h:aH op = .c):∃c,op = .call c:=by
 unfold aH at h
 split at h<;>first|(cases h; done)|exact ⟨_,rfl⟩
theorem ju {P:Program} {id:Nat} {f:Nat→BS} {ρ:Operand→AV} {K:AV→(Nat→BS)→Prop} {op:Op} (h:i9 P id f ρ K op):∃v f',(∀K':AV→(Nat→BS)→Prop,K' v f'→i9 P id f ρ K' op)∧K v f'∧(∀m,m≠id→f m = .fresh→f' m = .fresh)∧(f id = .fresh→(f' id = .fresh↔gX op=false)):=by
 cases op<;>(try (simp only [i9] at h; done))
 case store t x v =>
  simp only [i9] at h
  split at h
  ·rename_i ti i idx off ht hxa
   split at h
   ·rename_i sz l hf
    obtain ⟨h1,h2,h3,h4,h5⟩:=h
    refine ⟨_,_,fun K' hK'=>?_,h5,fun m hm hfm=>by rw [ac _ _ _ (fun h=>by subst h; rw [hf] at hfm; cases hfm)]; exact hfm,?_⟩
    rotate_left
    ·intro hid; rw [ac _ _ _ (fun h=>by subst h; rw [hf] at hid; cases hid)]; simp [hid,gX]
    simp only [i9,ht,hxa,hf]
    exact ⟨h1,h2,h3,h4,hK'⟩
   ·exact h.elim
  ·exact h.elim
 case makeMap t r =>
  cases r with
  | some _=>exact h.elim
  | none=>exact ⟨_,_,fun K' hK'=>hK',h,fun m hm hfm=>by rw [ac _ _ _ hm]; exact hfm,fun _=>by simp [gX]⟩
 case insert t m k v =>
  simp only [i9,Ae] at h
  split at h
  ·rename_i kd i kd' n hx hm hkk
   split at h
   ·rename_i es cl tt hf
    obtain ⟨h1,h2⟩:=h
    refine ⟨_,_,fun K' hK'=>?_,h2,fun m hm hfm=>by rw [ac _ _ _ (fun h=>by subst h; rw [hf] at hfm; cases hfm)]; exact hfm,?_⟩
    rotate_left
    ·intro hid; rw [ac _ _ _ (fun h=>by subst h; rw [hf] at hid; cases hid)]; simp [hid,gX]
    simp only [i9,Ae,hx,hm,hkk,hf]
    exact ⟨h1,hK'⟩
   ·exact h.elim
  ·exact h.elim
 case range t x =>
  simp only [i9] at h
  split at h
  ·rename_i ti s ht hxa
   split at h
   ·rename_i hk1
    refine ⟨_,_,fun K' hK'=>?_,h,fun m hm hfm=>by rw [ac _ _ _ hm]; exact hfm,fun _=>by simp [gX]⟩
    simp only [i9,ht,hxa,hk1]
    exact hK'
   ·exact h.elim
  ·exact h.elim
 case next it b =>
  simp only [i9] at h
  split at h
  ·rename_i i hxa
   split at h
   ·rename_i s p _ hf
    obtain ⟨hb,h⟩:=h
    split at h
    ·rename_i hlt
     refine ⟨_,_,fun K' hK'=>?_,h,fun m hm hfm=>by rw [ac _ _ _ (fun h=>by subst h; rw [hf] at hfm; cases hfm)]; exact hfm,?_⟩
     rotate_left
     ·intro hid; rw [ac _ _ _ (fun h=>by subst h; rw [hf] at hid; cases hid)]; simp [hid,gX]
     simp only [i9,hxa,hf,hlt,if_true]
     exact ⟨hb,hK'⟩
    ·rename_i hlt
     refine ⟨_,_,fun K' hK'=>?_,h,fun m hm hfm=>hfm,fun hid=>by simp [hid,gX]⟩
     simp only [i9,hxa,hf,hlt,if_false]
     exact ⟨hb,hK'⟩
   ·exact h.elim
  ·exact h.elim
 case call c =>
  obtain ⟨callee,args,argTypes⟩:=c
  simp only [i9] at h
  split at h
  ·rename_i t t' x y hat hal
   split at h
   ·rename_i ti ti' ht ht'
    split at h
    ·rename_i e e' hke hke'
     split at h
     ·rename_i te hte
      split at h
      ·rename_i sz i off len new hxa hn
       split at h
       ·rename_i sz' L hf
        obtain ⟨g1,g2,g3,g4,g5⟩:=h
        refine ⟨_,_,fun K' hK'=>?_,g5,fun m hm hfm=>by rw [ac _ _ _ hm,ac _ _ _ (fun h=>by subst h; rw [hf] at hfm; cases hfm)]; exact hfm,fun _=>by simp [gX]⟩
        simp only [i9,hat,hal,ht,ht',hke,hke',hte,hxa,hn,hf]
        exact ⟨g1,g2,g3,g4,hK'⟩
       ·exact h.elim
      ·rename_i sz tight l new hxa hn
       obtain ⟨g1,g2,g3,g4,g5⟩:=h
       refine ⟨_,_,fun K' hK'=>?_,g5,fun m hm hfm=>by rw [ac _ _ _ hm]; exact hfm,fun _=>by simp [gX]⟩
       simp only [i9,hat,hal,ht,ht',hke,hke',hte,hxa,hn]
       exact ⟨g1,g2,g3,g4,hK'⟩
      ·exact h.elim
     ·exact h.elim
    ·exact h.elim
   ·exact h.elim
  ·exact h.elim
theorem yc {P:Program} {id:Nat} {ρ:Operand→AV} {op:Op} {s:Prop} {v:AV} {b:BS} (h1:pH P id ρ op=some (s,v,b)):b ≠ .fresh:=by
 cases op<;>(try (simp only [pH] at h1; cases h1; done))
 case alloc t =>
  simp only [pH] at h1
  cases ht:ak P t<;>rw [ht] at h1<;>simp at h1
  rw [←h1.2.2]; simp
 case box t x =>
  simp only [pH] at h1
  cases ht:ak P t<;>rw [ht] at h1<;>simp at h1
  rw [←h1.2.2.2]; simp
 case buildSlice t len ps =>
  simp only [pH] at h1
  split at h1
  ·split at h1
   ·split at h1
    ·split at h1
     ·simp at h1; rw [←h1.2.2]; simp
     ·cases h1
    ·cases h1
   ·cases h1
  ·cases h1
 case makeSlice t l c =>
  simp only [pH] at h1
  split at h1
  ·split at h1
   ·split at h1
    ·simp at h1; rw [←h1.2.2]; simp
    ·cases h1
   ·cases h1
  ·cases h1
theorem no (c:Cx) (v:Value):Rv c (yT v) v:=by
 unfold yT
 split<;>simp [Rv]
theorem ao {P:Program} {t:TypeId} {ti:TI} (h:ak P t=some ti):∃d i z,P.underlying t=some d∧P.info? t=some i∧i.zero=some z∧ti.size=i.size∧ti.bytes=i.bytes ∧
 ti.kind=gz d∧ti.zero=z.cells.toList.map yT∧z.cells.size=i.size∧(∀u∈z.cells.toList,u.oneCell'=true)∧yU z=(gz d).agg∧rM P d=true:=by
 unfold ak at h
 split at h
 ·rename_i d i h1 h2
  split at h
  ·rename_i z hz
   split at h
   ·rename_i hc
    injection h with h; subst h
    simp only [Bool.and_eq_true,List.all_eq_true,beq_iff_eq] at hc
    exact ⟨d,i,z,h1,h2,hz,rfl,rfl,rfl,rfl,hc.1.1.2,hc.1.1.1,hc.1.2,hc.2⟩
   ·cases h
  ·cases h
 ·cases h
theorem qY {c:Cx} {a:AV} {v:Value} (hs:a.sca=true) (h:Rv c a v):v.oneCell'=true∧v.cells = #[v]:=by
 cases a<;>simp only [AV.sca,Bool.false_eq_true] at hs<;>simp only [Rv] at h
 case bool=>subst h; exact ⟨rfl,rfl⟩
 case int=>subst h; exact ⟨rfl,rfl⟩
 case str=>subst h; exact ⟨rfl,rfl⟩
 case sl=>obtain ⟨a,cap,rfl,_⟩:=h; exact ⟨rfl,rfl⟩
 case own=>obtain ⟨_,_,a,cap,rfl,_⟩:=h; exact ⟨rfl,rfl⟩
 case ptr=>obtain ⟨_,b,o,rfl,_⟩:=h; exact ⟨rfl,rfl⟩
 case rp=>obtain ⟨b,o,vs,rfl,_⟩:=h; exact ⟨rfl,rfl⟩
 case fn=>obtain ⟨a,b,rfl,_⟩:=h; exact ⟨rfl,rfl⟩
 case yld=>obtain ⟨_,l,rfl,_⟩:=h; exact ⟨rfl,rfl⟩
 case mp=>obtain ⟨_,l,rfl,_⟩:=h; exact ⟨rfl,rfl⟩
 case nilp=>subst h; exact ⟨rfl,rfl⟩
theorem ed {c:Cx} {a:AV} {v:Value} {n:Nat} (hs:a.shaped n=true) (h:Rv c a v):v.cells.size=n∧(∀u∈v.cells.toList,u.oneCell'=true)∧Rl c a.cells v.cells.toList:=by
 cases a with
 | agg cs =>
  simp only [Rv] at h
  obtain ⟨vs,rfl,h1,h2⟩:=h
  simp only [AV.shaped,beq_iff_eq] at hs
  refine ⟨?_,h1,h2⟩
  have:=h2.length
  simpa [Value.cells,hs] using this
 | any=>simp [AV.shaped,AV.sca] at hs
 | tup=>simp [AV.shaped,AV.sca] at hs
 | _ =>
  simp only [AV.shaped,Bool.and_eq_true,beq_iff_eq] at hs
  obtain ⟨h1,h2⟩:=qY hs.1 h
  rw [h2]
  refine ⟨by simp [hs.2],by simpa using h1,?_⟩
  simp only [AV.cells,Rl]
  exact ⟨v,[],rfl,h,rfl⟩
theorem xi {a:AV} {n:Nat} (hs:a.shaped n=true):a.cells.length=n:=by
 cases a<;>simp_all [AV.shaped,AV.cells]
theorem lH {c:Cx} {cs:List AV} {v:Value} (h:Rv c (.agg cs) v):∃vs:Array Value,v = .agg vs∧(∀u∈vs.toList,u.oneCell'=true)∧Rl c cs vs.toList:=by
 simpa only [Rv] using h
theorem ma {P:Program} {t:TypeId} {d:TypeDesc} (h:P.underlying t=some d) (w:World):(isAgg t).run P w = .ok (gz d).agg w:=by
 unfold isAgg
 simp only [Sem.run_bind,run_underlying h,Result.andThen_ok]
 cases d<;>rfl
theorem bo {P:Program} {t:TypeId} {i:TypeInfo} (h:P.info? t=some i) (w:World):(sizeOf t).run P w = .ok i.size w:=by
 simp [sizeOf,typeInfo,h]
theorem fH (b o n:Nat):(⟨b,o,none⟩:Addr).add n=⟨b,o+n,none⟩:=by
 unfold Addr.add; split<;>simp_all
theorem iu {P:Program} {op:BinOp} {t:TypeId} {xo yo:Operand} {a b:Value} (w:World) (h:(∀cs,a ≠ .agg cs)∧a ≠ .nilIface):(eqGuard op t xo yo a b).run P w = .ok () w:=by
 obtain ⟨h1,h2⟩:=h
 unfold eqGuard
 cases op<;>simp<;>cases a<;>first|rfl|(exact absurd rfl (h1 _))|(exact absurd rfl h2)
theorem Bh {P : Program} {op : BinOp} {t : TypeId} {k : IntKind} {n : Int} {y : AV} {s : Prop} {v : AV} (h : bD op (.int k n) y = some (s, v)) (hs : s) {c : Cx} {b : Value} (hy : Rv c y b) :
    ∃ r, (binOp op t (.int k n) b).run P c.w = .ok r c.w ∧ Rv c v r := by
  cases y
  case int k' m =>
    simp only [Rv] at hy; subst hy
    cases op <;> simp only [bD] at h <;> first
      | (injection h with h; injection h with h1 h2; subst h1; subst h2; refine ⟨_, ?_, rfl⟩; simp only [binOp, Op.shift]; rw [if_neg (by omega)]; rfl)
      | (split at h
         · rename_i hk
           subst hk
           injection h with h; injection h with h1 h2; subst h1; subst h2
           refine ⟨_, ?_, rfl⟩
           simp [binOp, Op.intArith, Op.intDiv, Op.intBits, Op.intCmp]
           try simp [hs]
           try (first | rfl | (simp only [bne]; done))
         · cases h)
      | (simp at h)
  all_goals (cases op <;> simp [bD] at h)
theorem Bi {P : Program} {op : BinOp} {t : TypeId} {n : ByteArray} {y : AV} {s : Prop} {v : AV} (h : bD op (.str n) y = some (s, v)) (hs : s) {c : Cx} {b : Value} (hy : Rv c y b) :
    ∃ r, (binOp op t (.string n) b).run P c.w = .ok r c.w ∧ Rv c v r := by
  cases y
  case str m =>
    simp only [Rv] at hy; subst hy
    cases op <;> simp only [bD] at h <;> first
      | (injection h with h; injection h with h1 h2; subst h1; subst h2; refine ⟨_, ?_, rfl⟩
         simp only [binOp, Op.stringOp]
         have hm : IntKind.i64.max = 9223372036854775807 := rfl
         first | rfl | (rw [if_neg (by rw [hm]; omega)]; rfl))
      | (simp at h)
  all_goals (cases op <;> simp [bD] at h)
theorem vS {P:Program} {t:TypeId} (ht:P.underlying t=some .bool) (a b:Bool) (w:World):(Op.equal t (.bool a) (.bool b)).run P w = .ok (a == b) w:=by
 have hm:Op.maxDepth=9999+1:=rfl
 unfold Op.equal
 rw [hm]
 generalize 9999=d
 rw [Op.equalIn]
 simp only [Sem.run_bind,run_underlying ht,Result.andThen_ok]
 rfl
theorem y5 {P : Program} {op : BinOp} {t : TypeId} {n : Bool} {y : AV} {s : Prop} {v : AV} (ht : P.underlying t = some .bool) (h : bD op (.bool n) y = some (s, v)) {c : Cx} {b : Value} (hy : Rv c y b) :
    ∃ r, (binOp op t (.bool n) b).run P c.w = .ok r c.w ∧ Rv c v r := by
  cases y
  case bool m =>
    simp only [Rv] at hy; subst hy
    cases op <;> simp only [bD] at h <;> first
      | (injection h with h; injection h with h1 h2; subst h1; subst h2; refine ⟨_, ?_, rfl⟩
         simp only [binOp, Sem.run_bind, vS ht, Result.andThen_ok, Sem.run_pure])
      | (simp at h)
  all_goals (cases op <;> simp [bD] at h)
theorem AQ {P:Program} {op:UnOp} {x:AV} {s:Prop} {v:AV} (h:Fs op x=some (s,v)) {c:Cx} {a:Value} (hx:Rv c x a) :
 ∃r,(Op.unary op a).run P c.w = .ok r c.w∧Rv c v r:=by
 cases x<;>(try (cases op<;>simp [Fs] at h; done))
 case bool b =>
  simp only [Rv] at hx; subst hx
  cases op<;>simp only [Fs] at h<;>first
   | (injection h with h; injection h with h1 h2; subst h1; subst h2; exact ⟨_,rfl,rfl⟩)
   | (simp at h)
 case int k n =>
  simp only [Rv] at hx; subst hx
  cases op<;>simp only [Fs] at h<;>first
   | (injection h with h; injection h with h1 h2; subst h1; subst h2; exact ⟨_,rfl,rfl⟩)
   | (simp at h)
theorem cG {d:TypeDesc} {e:TypeId} (h:gz d = .slice e):d = .slice e:=by cases d<;>simp_all [gz]
theorem g_ {d:TypeDesc} {n:Nat} {e:TypeId} (h:gz d = .array n e):d = .array n e:=by cases d<;>simp_all [gz]
theorem h_ {d:TypeDesc} (h:gz d = .string):d = .string:=by cases d<;>simp_all [gz]
theorem Fo {d:TypeDesc} (h:gz d = .bool):d = .bool:=by cases d<;>simp_all [gz]
theorem xv {d:TypeDesc} {k:IntKind} (h:gz d = .int k):d = .int k:=by cases d<;>simp_all [gz]
theorem mv {d:TypeDesc} {fs:List (Nat×TypeId)} (h:gz d = .struct fs):∃fields:Array Field,d = .struct fields∧fs=fields.toList.map fun f=>(f.offset,f.type):=by
 cases d<;>simp_all [gz]
theorem sf {c:Cx} {k:IntKind}:∀ {cs:List AV} {a:List Int} {vs:List Value},kQ k cs=some a→Rl c cs vs→vs=a.map (Value.int k)
 | [],a,vs,h,hl=>by
  simp only [kQ,Option.some.injEq] at h
  subst h
  simpa only [Rl,List.map_nil] using hl
 | x::cs,a,vs,h,hl=>by
  cases x
  case int k' n =>
   simp only [kQ] at h
   split at h
   ·rename_i hk
    subst hk
    cases hr:kQ k' cs with
    | none=>rw [hr] at h; cases h
    | some r =>
     rw [hr] at h
     simp only [Option.map_some,Option.some.injEq] at h
     subst h
     simp only [Rl,Rv] at hl
     obtain ⟨v,us,rfl,rfl,h2⟩:=hl
     rw [List.map_cons,←sf hr h2]
   ·cases h
  all_goals (simp only [kQ] at h; cases h)
theorem lk {P:Program} (w:World) {e:TypeId} {k:IntKind} (hu:P.underlying e=some (.int k)) {xs:Array Value} {a:List Int} (hx:xs.toList=a.map (Value.int k)) {i:Nat} {m:Int} (hi:a[i]?=some m):(part e xs i).run P w = .ok (.int k m) w:=by
 have hg:xs[i]?=some (.int k m):=by
  rw [←Array.getElem?_toList,hx,List.getElem?_map,hi]; rfl
 unfold part
 simp only [Sem.run_bind,ma hu,Result.andThen_ok,gz,TK.agg,Bool.false_eq_true,if_false,hg,Sem.run_pure]
theorem iK {P:Program} {e:TypeId} {k:IntKind} (hu:P.underlying e=some (.int k)) (d:Nat) {xs ys:Array Value} {a b:List Int} (hx:xs.toList=a.map (Value.int k)) (hy:ys.toList=b.map (Value.int k)) (w:World) :
 ∀is:List Nat,(∀i∈is,i<a.length∧i<b.length)→(Op.eqItems (d+1) e 1 xs ys is).run P w = .ok (is.all fun i=>a[i]? == b[i]?) w
 | [],_=>by simp only [Op.eqItems,Sem.run_pure,List.all_nil]
 | i::is,h=>by
  obtain ⟨h1,h2⟩:=h i (by simp)
  have ih:=iK hu d hx hy w is fun j hj=>h j (by simp [hj])
  have e1:a[i]?=some a[i]:=List.getElem?_eq_getElem h1
  have e2:b[i]?=some b[i]:=List.getElem?_eq_getElem h2
  simp only [Op.eqItems,Nat.mul_one,Sem.run_bind,lk w hu hx e1,lk w hu hy e2,run_equalIn_int w d e k k a[i] b[i] hu,Result.andThen_ok,List.all_cons,e1,e2]
  by_cases hq:a[i]=b[i]
  ·simp [hq,ih]
  ·simp [hq]
theorem tv {P:Program} {op:BinOp} {t:TypeId} {cs:List AV} {y:AV} {s:Prop} {v:AV} (h:nM P op t cs y=some (s,v)) (hs:s) {c:Cx} {av b:Value} {xo yo:Operand} (hx:Rv c (.agg cs) av) (hy:Rv c y b) :
 ∃r,(eqGuard op t xo yo av b).run P c.w = .ok () c.w∧(binOp op t av b).run P c.w = .ok r c.w∧Rv c v r:=by
 unfold nM at h
 split at h
 ·rename_i ti ds ht
  split at h
  ·rename_i n e hk
   split at h
   ·rename_i te hte
    split at h
    ·rename_i k hke
     split at h
     ·rename_i x z h1 h2
      split at h
      ·rename_i hl
       obtain ⟨hl1,hl2,hsz⟩:=hl
       obtain ⟨d,i,zz,hd,_,_,_,_,hk0,_⟩:=ao ht
       rw [hk0] at hk
       have:=g_ hk; subst this
       obtain ⟨d',i',zz',hd',hi',_,hsz',_,hk0',_⟩:=ao hte
       rw [hk0'] at hke
       have:=xv hke; subst this
       simp only [Rv] at hx hy
       obtain ⟨us,rfl,_,hx⟩:=hx
       obtain ⟨ws,rfl,_,hy⟩:=hy
       have e1:=sf h1 hx
       have e2:=sf h2 hy
       have hcell:P.cellsOf e=1:=by
        have q1:=run_sizeOf c.w hi'
        rw [bo hi'] at q1
        injection q1 with q1
        rw [←q1,←hsz',hsz]
       have heq:(Op.equalIn 10000 t (.agg us) (.agg ws)).run P c.w = .ok (x == z) c.w:=by
        rw [run_equalIn_array c.w 9999 us ws hd hi',hcell,iK hd' 9998 e1 e2 c.w _ (fun i hi=>by rw [List.mem_range] at hi; omega)]
        congr 1
        rw [Bool.eq_iff_iff,List.all_eq_true,beq_iff_eq]
        constructor
        ·intro hall
         refine List.ext_getElem? fun j=>?_
         rcases Nat.lt_or_ge j n with hj|hj
         ·simpa using hall j (by simpa using hj)
         ·rw [List.getElem?_eq_none (by omega),List.getElem?_eq_none (by omega)]
        ·intro he j _
         simp [he]
       have hg:=fun op:BinOp=>run_eqGuard_agg (P:=P) c.w op t xo yo us ws
       cases op
       case eql =>
        simp only [Option.some.injEq,Prod.mk.injEq] at h
        obtain ⟨g1,rfl⟩:=h
        rw [←g1] at hs
        exact ⟨.bool (x == z),hg _ hs,by rw [run_eql_struct,heq]; rfl,by simp only [Rv]⟩
       case neq =>
        simp only [Option.some.injEq,Prod.mk.injEq] at h
        obtain ⟨g1,rfl⟩:=h
        rw [←g1] at hs
        exact ⟨.bool (!(x == z)),hg _ hs,by rw [run_neq_struct,heq]; rfl,by simp only [Rv]⟩
       all_goals (simp at h)
      ·cases h
     ·cases h
    ·cases h
   ·cases h
  ·cases h
 ·cases h
theorem qh {fields:Array Field} {i off:Nat} {t:TypeId} (h:(fields.toList.map fun f=>(f.offset,f.type))[i]?=some (off,t)):∃f,fields[i]?=some f∧f.offset=off∧f.type=t:=by
 rw [List.getElem?_map] at h
 cases hf:fields.toList[i]? with
 | none=>rw [hf] at h; cases h
 | some f =>
  rw [hf] at h
  simp only [Option.map_some,Option.some.injEq,Prod.mk.injEq] at h
  exact ⟨f,by simpa using hf,h.1,h.2⟩
theorem oS {P:Program} {c:Cx} {t:TypeId} {d:TypeDesc} {i:TypeInfo} (hd:P.underlying t=some d) (hi:P.info? t=some i) {cs:List AV} {vs:Array Value} (h1:∀u∈vs.toList,u.oneCell'=true)
 (h:Rl c cs vs.toList) (off:Nat) (hl:off+i.size≤cs.length) (hz:(gz d).agg=false→i.size=1) :
 ∃r,(part t vs off).run P c.w = .ok r c.w∧Rv c (dD (gz d).agg ((cs.drop off).take i.size)) r:=by
 have hlen:=h.length
 simp only [part,Sem.run_bind,ma hd,Result.andThen_ok]
 cases hg:(gz d).agg with
 | true =>
  simp only [if_true,Sem.run_bind,bo hi,Result.andThen_ok,Sem.run_pure,dD]
  refine ⟨_,rfl,?_⟩
  simp only [Rv]
  refine ⟨_,rfl,fun u hu=>h1 u ?_,?_⟩
  ·rw [Array.toList_extract] at hu
   exact List.mem_of_mem_drop (List.mem_of_mem_take hu)
  ·rw [Array.toList_extract]
   have:=(h.drop off).take i.size
   simpa [List.extract] using this
 | false =>
  have h1:=hz hg
  simp only [Bool.false_eq_true,if_false,dD]
  have hlt:off<cs.length:=by omega
  obtain ⟨u,hu,hr⟩:=h.get off _ (List.getElem?_eq_getElem hlt)
  have hu':vs[off]?=some u:=by simpa using hu
  rw [hu']
  refine ⟨u,rfl,?_⟩
  have:((cs.drop off).take i.size).headD .any=cs[off]:=by
   rw [h1,List.headD_eq_head?_getD,List.head?_take]
   simp [List.getElem?_eq_getElem hlt]
  rw [this]; exact hr
theorem pF {P:Program} {t:TypeId} {ti:TI} (h:ak P t=some ti) (hg:ti.kind.agg=false):ti.size=1:=by
 obtain ⟨d,i,z,_,_,_,h4,_,h6,_,h8,_,h10,_⟩:=ao h
 rw [h6] at hg; rw [hg] at h10
 rw [h4,←h8]
 cases z<;>first|rfl|(simp [yU] at h10)
theorem iD {P:Program} (w:World) (k:IntKind) (n:Int) (y:Nat) (code:BoundsCode) (h0:0≤n) (h1:n≤y):(Instr.sliceBound (.int k n) y code).run P w = .ok n.toNat w:=by
 simp [Instr.sliceBound,asIntOf,h0,h1]
theorem Rl.map {c:Cx} {ρA:Operand→AV} {ρ:Operand→Value} (hr:∀x,Rv c (ρA x) (ρ x)):∀(l:List Operand),Rl c (l.map ρA) (l.map ρ)
 | []=>by simp [Rl]
 | x::l=>by simp only [List.map_cons,Rl]; exact ⟨_,_,rfl,hr x,Rl.map hr l⟩
theorem jL {P:Program} {s:TypeId} {f:Nat} {ti tf:TI} {fs:List (Nat×TypeId)} {off:Nat} {t:TypeId} (h1:ak P s=some ti) (h2:ti.kind = .struct fs) (h3:fs[f]?=some (off,t)) (h4:ak P t=some tf)
 (h5:tf.size≠0) (b o:Nat) (w:World):(Instr.fieldAt s (.pointer (some ⟨b,o,none⟩)) f).run P w = .ok (.pointer (some ⟨b,o+off,none⟩)) w:=by
 obtain ⟨d,i,z,hd,hi,_,_,_,hk,_⟩:=ao h1
 obtain ⟨d',i',z',hd',hi',_,hs',_⟩:=ao h4
 rw [hk] at h2
 obtain ⟨fields,rfl,rfl⟩:=mv h2
 obtain ⟨fd,hfd,rfl,rfl⟩:=qh h3
 have hne:i'.size≠0:=by rwa [←hs']
 simp only [Instr.fieldAt,Sem.run_bind,run_underlying hd,Result.andThen_ok,hfd,Instr.sureAddr,Sem.run_pure,fieldPlace,bo hi',hne,if_false,fH]
theorem jP {P:Program} {t e:TypeId} {i:TypeInfo} (hd:P.underlying t=some (.slice e)) (hi:P.info? e=some i) (b o len cap:Nat) (k:IntKind) (n:Int) (h0:0≤n) (h1:n<len) (w:World) :
 (Instr.indexAt t (.slice (some ⟨b,o,none⟩) len cap) (.int k n)).run P w = .ok (.pointer (some ⟨b,o+n.toNat*i.size,none⟩)) w:=by
 simp [Instr.indexAt,asIntOf,run_underlying hd,h0,h1,bo hi,fH]
theorem jO {P:Program} {t e:TypeId} {m:Nat} {i:TypeInfo} (hd:P.underlying t=some (.array m e)) (hi:P.info? e=some i) (b o:Nat) (k:IntKind) (n:Int) (h0:0≤n) (h1:n<m) (w:World) :
 (Instr.indexAt t (.pointer (some ⟨b,o,none⟩)) (.int k n)).run P w = .ok (.pointer (some ⟨b,o+n.toNat*i.size,none⟩)) w:=by
 simp [Instr.indexAt,asIntOf,run_underlying hd,h0,h1,bo hi,fH,Instr.sureAddr]
theorem qI {v:Value} (h:v.oneCell'=true):v.cells = #[v]:=by cases v<;>first|rfl|(simp [Value.oneCell'] at h)
theorem nQ {c:Cx} {a:AV} {v:Value} (h:Rv c a v) (h1:a.isAgg=true∨v.oneCell'=true):Rl c a.cells v.cells.toList:=by
 cases a with
 | agg cs=>obtain ⟨vs,rfl,h2,h3⟩:=lH h; exact h3
 | _ =>
  have h2:=h1.resolve_left (by simp [AV.isAgg])
  rw [qI h2]
  simp only [AV.cells,Rl]
  exact ⟨v,[],rfl,h,rfl⟩
theorem j3 {c:Cx} {sz:Nat} {l:List AV} {b o:Nat} (h:Re c sz l b o) {i:Int} (h0:0≤i) (h1:i<(l.length:Int)) :
 ∃vs:List Value,vs.length=sz∧(∀u∈vs,u.oneCell'=true)∧Rl c (bk l i).cells vs∧aD c.w b (o+i.toNat*sz) vs:=by
 have hlt:i.toNat<l.length:=by omega
 obtain ⟨v,hv,hsz,ha,hone,hc⟩:=h.get i.toNat _ (List.getElem?_eq_getElem hlt)
 refine ⟨v.cells.toList,by simpa using hsz,hone,?_,hc⟩
 unfold bk
 rw [List.getD_eq_getElem?_getD,List.getElem?_eq_getElem hlt]
 exact nQ hv ha
theorem lV (off:Nat):∀(l:List Value) (k:Nat) (vs:Array Value),off+k+l.length≤vs.size →
 ((l.zipIdx k).foldl (fun cs (p:Value×Nat)=>cs.setIfInBounds (off+p.2) p.1) vs)=(vs.toList.take (off+k)++l++vs.toList.drop (off+k+l.length)).toArray
 | [],k,vs,_=>by simp
 | v::l,k,vs,h=>by
  simp only [List.length_cons] at h
  rw [List.zipIdx_cons,List.foldl_cons,lV off l (k+1) _ (by simp; omega)]
  congr 1
  have hlt:off+k<vs.toList.length:=by simp; omega
  simp only [Array.toList_setIfInBounds,List.length_cons]
  rw [show off+(k+1)=off+k+1 by omega,List.take_succ_eq_append_getElem (by simpa using hlt),List.take_set_of_le (by omega),List.getElem_set_self]
  rw [show off+k+(l.length+1)=off+k+1+l.length by omega,List.drop_set_of_lt (by omega)]
  simp
theorem mH {c:Cx} {ρA:Operand→AV} {ρ:Operand→Value} (hr:∀x,Rv c (ρA x) (ρ x)) (placeA place:Nat→Option (Nat×Nat)) (hp:∀i,placeA i≠none→placeA i=place i) :
 ∀(parts:List (Nat×Operand)) (cs out:List AV) (vs:Array Value),gM placeA ρA parts cs=some out→(∀u∈vs.toList,u.oneCell'=true)→Rl c cs vs.toList →
  ∃vs':Array Value,Instr.fill place vs (parts.map fun p=>(p.1,ρ p.2))=some vs'∧(∀u∈vs'.toList,u.oneCell'=true)∧Rl c out vs'.toList:=by
 intro parts
 induction parts with
 | nil=>intro cs out vs h h1 h2; simp only [gM,Option.some.injEq] at h; subst h; exact ⟨vs,rfl,h1,h2⟩
 | cons p parts ih =>
  obtain ⟨i,x⟩:=p
  intro cs out vs h h1 h2
  simp only [gM] at h
  cases hpl:placeA i with
  | none=>simp [hpl] at h
  | some q =>
   obtain ⟨off,size⟩:=q
   rw [hpl] at h
   simp only [Bool.and_eq_true,decide_eq_true_eq] at h
   split at h
   ·rename_i hc
    obtain ⟨hsh,hle⟩:=hc
    obtain ⟨g1,g2,g3⟩:=ed hsh (hr x)
    have hlen:=h2.length
    have hp':place i=some (off,size):=by rw [←hp i (by simp [hpl]),hpl]
    have hvs:off+(ρ x).cells.size≤vs.size:=by
     rw [g1]
     have:vs.size=cs.length:=by simpa using hlen
     omega
    have hfold:((ρ x).cells.zipIdx.foldl (fun cs (c,j)=>cs.setIfInBounds (off+j) c) vs)=(vs.toList.take off++(ρ x).cells.toList++vs.toList.drop (off+(ρ x).cells.size)).toArray:=by
     have:=lV off (ρ x).cells.toList 0 vs (by simpa using hvs)
     rw [←Array.foldl_toList,Array.toList_zipIdx]
     simpa using this
    obtain ⟨vs',e1,e2,e3⟩:=ih _ out (vs:=(vs.toList.take off++(ρ x).cells.toList++vs.toList.drop (off+(ρ x).cells.size)).toArray) h (by
     intro u hu
     simp only [List.mem_append] at hu
     rcases hu with (hu|hu)|hu
     ·exact h1 u (List.mem_of_mem_take hu)
     ·exact g2 u hu
     ·exact h1 u (List.mem_of_mem_drop hu)) (by
     rw [g1]
     exact ((h2.take off).append g3).append (h2.drop _))
    refine ⟨vs',?_,e2,e3⟩
    simp only [List.map_cons,Instr.fill,hp']
    rw [if_neg (by simp [g1]; omega)]
    rw [hfold]
    exact e1
   ·cases h
theorem dk {P:Program} {s:Sem Value} {w w':World} {r:Value} (h:s.run P w = .ok r w'):(do pure (.value (←s)):Sem Next).run P w = .ok (.value r) w':=by
 simp only [Sem.run_bind,h,Result.andThen_ok,Sem.run_pure]
theorem cn {ρA:Operand→AV} {ρ:Operand→Value} {c:Cx} (hr:∀x,Rv c (ρA x) (ρ x)) {x:Option Operand} {n:Option Int} (h:fS ρA x=some n) :
 (x.map ρ=none∧n=none)∨∃k m,x.map ρ=some (.int k m)∧n=some m:=by
 cases x with
 | none=>simp [fS] at h; exact .inl ⟨rfl,h.symm⟩
 | some y =>
  simp only [fS] at h
  split at h
  ·rename_i k m hy
   injection h with h
   have:=hr y
   rw [hy] at this
   simp only [Rv] at this
   exact .inr ⟨k,m,by simp [this],h.symm⟩
  ·cases h
theorem ip {P:Program} (w:World) (isSlice:Bool) (len cap:Nat) (hcap:len≤cap) {lo hi mx:Option Int} {vl vh vm:Option Value}
 (hl:(vl=none∧lo=none)∨∃k m,vl=some (.int k m)∧lo=some m) (hh:(vh=none∧hi=none)∨∃k m,vh=some (.int k m)∧hi=some m)
 (hm:(vm=none∧mx=none)∨∃k m,vm=some (.int k m)∧mx=some m) (h0:0≤lo.getD 0) (h1:lo.getD 0≤hi.getD len) (h2:hi.getD len≤(len:Int))
 (h3:so mx (hi.getD len) len) (h4:¬(mx.isSome=true∧hi.isNone=true)) :
 (Instr.sliceBounds isSlice len cap vl vh vm).run P w = .ok ((lo.getD 0).toNat,(hi.getD len).toNat,dC mx cap) w:=by
 have hh0:0≤hi.getD len:=by omega
 rcases hm with ⟨rfl,rfl⟩|⟨km,m,rfl,rfl⟩
 ·rcases hh with ⟨rfl,rfl⟩|⟨kh,h,rfl,rfl⟩
  ·rcases hl with ⟨rfl,rfl⟩|⟨kl,l,rfl,rfl⟩
   ·simp [Instr.sliceBounds,dC]
   ·simp only [Option.getD_some,Option.getD_none] at h0 h1
    simp [Instr.sliceBounds,dC,iD w kl l len _ h0 h1]
  ·simp only [Option.getD_some] at hh0 h1 h2
   rcases hl with ⟨rfl,rfl⟩|⟨kl,l,rfl,rfl⟩
   ·simp [Instr.sliceBounds,dC,iD w kh h cap _ hh0 (by omega)]
   ·simp only [Option.getD_some] at h0 h1
    simp [Instr.sliceBounds,dC,iD w kh h cap _ hh0 (by omega),iD w kl l h.toNat _ h0 (by omega)]
 ·rcases hh with ⟨rfl,rfl⟩|⟨kh,h,rfl,rfl⟩
  ·exact absurd ⟨rfl,rfl⟩ h4
  ·simp only [Option.getD_some,so] at hh0 h1 h2 h3
   rcases hl with ⟨rfl,rfl⟩|⟨kl,l,rfl,rfl⟩
   ·simp [Instr.sliceBounds,dC,iD w km m cap _ (by omega) (by omega),iD w kh h m.toNat _ hh0 (by omega)]
   ·simp only [Option.getD_some] at h0 h1
    simp [Instr.sliceBounds,dC,iD w km m cap _ (by omega) (by omega),iD w kh h m.toNat _ hh0 (by omega),iD w kl l h.toNat _ h0 (by omega)]
set_option linter.unusedSimpArgs false
theorem Dv {P:Program} {c:Cx} {t e:TypeId} {i:TypeInfo} (hd:P.underlying t=some (.slice e)) (hi:P.info? e=some i) {sz:Nat} {tight:Bool} {l:List AV} (hsz:i.size=sz∨l=[]) {a:Value} (ha:Rv c (.sl sz tight l) a)
 {lo hi' mx:Option Int} {vl vh vm:Option Value}
 (hl:(vl=none∧lo=none)∨∃k m,vl=some (.int k m)∧lo=some m) (hh:(vh=none∧hi'=none)∨∃k m,vh=some (.int k m)∧hi'=some m)
 (hm:(vm=none∧mx=none)∨∃k m,vm=some (.int k m)∧mx=some m) (h4:¬(mx.isSome=true∧hi'.isNone=true)) {s:Prop} {v:AV} (h:c9 (.sl sz tight l) lo hi' mx=some (s,v)) (hs:s) :
 ∃r,(Instr.sliceAt t a vl vh vm).run P c.w = .ok r c.w∧Rv c v r:=by
 simp only [c9,Option.some.injEq,Prod.mk.injEq] at h
 obtain ⟨rfl,rfl⟩:=h
 obtain ⟨h0,h1,h2,h3⟩:=hs
 simp only [Rv] at ha
 obtain ⟨ad,cap,rfl,hc1,hc2,hc3⟩:=ha
 have hb:=ip (P:=P) c.w true l.length cap hc1 hl hh hm h0 h1 h2 h3 h4
 refine ⟨.slice (if dC mx cap=(lo.getD 0).toNat then ad else ad.map (·.add ((lo.getD 0).toNat*i.size))) ((hi'.getD l.length).toNat-(lo.getD 0).toNat) (dC mx cap-(lo.getD 0).toNat),?_,?_⟩
 ·simp only [Instr.sliceAt,Sem.run_bind,run_underlying hd,Result.andThen_ok,Instr.slice,hb,bo hi,Sem.run_pure]
 ·simp only [Rv]
  have hlen:((l.take (hi'.getD l.length).toNat).drop (lo.getD 0).toNat).length=(hi'.getD l.length).toNat-(lo.getD 0).toNat:=by
   simp only [List.length_drop,List.length_take]; omega
  refine ⟨_,_,by rw [hlen],by rw [hlen]; cases mx<;>simp [so,dC] at h3 ⊢ <;> omega,?_,?_⟩
  ·rw [hlen]
   cases mx with
   | some m=>simp only [decide_eq_true_eq]; rintro rfl; simp only [dC]
   | none =>
    simp only [Bool.and_eq_true]
    rintro ⟨ht,hn⟩
    cases hi' with
    | some _=>cases hn
    | none=>simp [hc2 ht,dC]
  ·by_cases hz:(hi'.getD l.length).toNat≤(lo.getD 0).toNat
   ·exact .inl (List.eq_nil_of_length_eq_zero (by rw [hlen]; omega))
   ·rcases hc3 with rfl|⟨b,o,rfl,hb',hF,hre⟩
    ·exact .inl (by simp)
    ·refine .inr ⟨b,o+(lo.getD 0).toNat*sz,?_,hb',hF,?_⟩
     ·have hne:¬dC mx cap=(lo.getD 0).toNat:=by
       cases mx<;>simp [so,dC] at h3 ⊢ <;> omega
      rw [if_neg hne]
      rcases hsz with rfl|rfl
      ·simp [fH]
      ·refine absurd ?_ hz; simp only [List.length_nil] at h2 ⊢; omega
     ·have:=hre.slice (lo.getD 0).toNat ((hi'.getD l.length).toNat-(lo.getD 0).toNat)
      rwa [show (l.drop (lo.getD 0).toNat).take ((hi'.getD l.length).toNat-(lo.getD 0).toNat)=(l.take (hi'.getD l.length).toNat).drop (lo.getD 0).toNat from (List.drop_take ..).symm] at this
theorem AH {P:Program} {c:Cx} {t e:TypeId} {i:TypeInfo} (hd:P.underlying t=some (.slice e)) (hi:P.info? e=some i) {sz id off len:Nat} (hsz:i.size=sz) {a:Value} (ha:Rv c (.own sz id off len) a)
 {lo hi' mx:Option Int} {vl vh vm:Option Value}
 (hl:(vl=none∧lo=none)∨∃k m,vl=some (.int k m)∧lo=some m) (hh:(vh=none∧hi'=none)∨∃k m,vh=some (.int k m)∧hi'=some m)
 (hm:(vm=none∧mx=none)∨∃k m,vm=some (.int k m)∧mx=some m) (h4:¬(mx.isSome=true∧hi'.isNone=true)) {s:Prop} {v:AV} (h:c9 (.own sz id off len) lo hi' mx=some (s,v)) (hs:s) :
 ∃r,(Instr.sliceAt t a vl vh vm).run P c.w = .ok r c.w∧Rv c v r:=by
 simp only [c9,Option.some.injEq,Prod.mk.injEq] at h
 obtain ⟨rfl,rfl⟩:=h
 obtain ⟨h0,h1,h2,h3⟩:=hs
 simp only [Rv] at ha
 obtain ⟨hU,hesz,ad,cap,rfl,hc1,hc3⟩:=ha
 have hb:=ip (P:=P) c.w true len cap hc1 hl hh hm h0 h1 h2 h3 h4
 refine ⟨.slice (if dC mx cap=(lo.getD 0).toNat then ad else ad.map (·.add ((lo.getD 0).toNat*i.size))) ((hi'.getD len).toNat-(lo.getD 0).toNat) (dC mx cap-(lo.getD 0).toNat),?_,?_⟩
 ·simp only [Instr.sliceAt,Sem.run_bind,run_underlying hd,Result.andThen_ok,Instr.slice,hb,bo hi,Sem.run_pure]
 ·simp only [Rv]
  have hge:(hi'.getD len).toNat≤dC mx cap:=by cases mx<;>simp [so,dC] at h3 ⊢ <;> omega
  have hle:dC mx cap≤cap:=by cases mx<;>simp [so,dC] at h3 ⊢; omega
  refine ⟨hU,hesz,_,_,rfl,by omega,?_⟩
  by_cases hz:dC mx cap=(lo.getD 0).toNat
  ·left; omega
  ·right
   rw [if_neg hz]
   rcases hc3 with rfl|⟨b,o,rfl,hall⟩
   ·omega
   ·refine ⟨b,o+(lo.getD 0).toNat*i.size,by simp [fH],fun e' he'=>?_⟩
    obtain ⟨g1,g2,g3,g4⟩:=hall e' he'
    have g5:=hesz e' he'
    refine ⟨g1,g2,?_,?_⟩
    ·rw [g3,hsz,←g5,Nat.add_mul]; omega
    ·refine Nat.le_trans ?_ g4
     rw [Nat.add_le_add_iff_left]
     exact Nat.mul_le_mul_right _ (by omega)
theorem AI {P:Program} {c:Cx} {t:TypeId} (hd:P.underlying t=some .string) {s:ByteArray}
 {lo hi':Option Int} {vl vh:Option Value}
 (hl:(vl=none∧lo=none)∨∃k m,vl=some (.int k m)∧lo=some m) (hh:(vh=none∧hi'=none)∨∃k m,vh=some (.int k m)∧hi'=some m) {p:Prop} {v:AV} (h:c9 (.str s) lo hi' none=some (p,v)) (hs:p) :
 ∃r,(Instr.sliceAt t (.string s) vl vh none).run P c.w = .ok r c.w∧Rv c v r:=by
 simp only [c9,Option.some.injEq,Prod.mk.injEq] at h
 obtain ⟨rfl,rfl⟩:=h
 obtain ⟨h0,h1,h2⟩:=hs
 have hb:=ip (P:=P) c.w false s.size s.size (Nat.le_refl _) hl hh (mx:=none) (vm:=none) (.inl ⟨rfl,rfl⟩) h0 h1 h2 trivial (by simp)
 refine ⟨_,?_,rfl⟩
 simp only [Instr.sliceAt,Sem.run_bind,run_underlying hd,Result.andThen_ok,Instr.slice,hb,Option.isSome_none,Bool.false_eq_true,if_false,Sem.run_pure]
set_option linter.unusedVariables false
def iP (P:Program) (c:Cx) (s:Sem Next) (v:AV):Prop:=∃r,s.run P c.w = .ok (.value r) c.w∧Rv c v r
theorem iP.of {P:Program} {c:Cx} {s:Sem Value} {v:AV} (h:∃r,s.run P c.w = .ok r c.w∧Rv c v r):iP P c (do pure (.value (←s))) v :=
 let ⟨r,h1,h2⟩:=h; ⟨r,dk h1,h2⟩
theorem jS {α β:Type} {P:Program} (g:α→Sem β) (f:α→β) (w:World):∀l:List α,(∀x∈l,(g x).run P w = .ok (f x) w)→(l.mapM g).run P w = .ok (l.map f) w
 | [],_=>by simp
 | x::l,h=>by
  simp only [List.mapM_cons,Sem.run_bind,h x (by simp),Result.andThen_ok,jS g f w l (fun y hy=>h y (by simp [hy])),Sem.run_pure,List.map_cons]
theorem pe {α β:Type} {P:Program} (g:α→Sem β) (f:α→β) (w:World) (xs:Array α) (h:∀x∈xs,(g x).run P w = .ok (f x) w):(xs.mapM g).run P w = .ok (xs.map f) w:=by
 rw [Array.mapM_eq_mapM_toList,Sem.run_map,jS g f w xs.toList (fun x hx=>h x (by simpa using hx))]
 simp only [Result.andThen_ok]
 congr 1
 exact Array.ext' (by simp)
section
variable {P:Program} {c:Cx} {ρA:Operand→AV} {ρ:Operand→Value} (hr:∀x,Rv c (ρA x) (ρ x)) {s:Prop} {v:AV}
include hr
theorem u_ {t:TypeId} {x i:Operand} (h:iL P ρA (.indexAddr t x i)=some (s,v)) (hs:s):∃r,(Instr.indexAt t (ρ x) (ρ i)).run P c.w = .ok r c.w∧Rv c v r:=by
 have hx:=hr x
 have hi:=hr i
 simp only [iL] at h
 split at h
 ·
  rename_i ti sz tight l k n ht hxa hia
  rw [hxa] at hx; rw [hia] at hi
  split at h
  ·rename_i e he
   split at h
   ·rename_i te hte
    split at h
    ·rename_i hsz
     injection h with h; injection h with h1 h2; subst h1; subst h2
     obtain ⟨d,ii,z,hd,hii,_,_,_,hk,_⟩:=ao ht
     rw [hk] at he
     have:=cG he; subst this
     obtain ⟨d',i',z',hd',hi',_,hsi,_⟩:=ao hte
     simp only [Rv] at hx hi
     obtain ⟨a,cap,hxv,hc1,hc2,hc3⟩:=hx
     rcases hc3 with rfl|⟨b,o,rfl,hb,hF,hre⟩
     ·simp at hs; omega
     ·rw [hxv,hi]
      obtain ⟨vs,g1,g2,g3,g4⟩:=j3 hre hs.1 hs.2
      refine ⟨_,jP hd hi' b o _ cap k n hs.1 hs.2 c.w,?_⟩
      simp only [Rv]
      exact ⟨b,o+n.toNat*i'.size,vs,rfl,hb,hF,g2,g3,by rw [←hsi,hsz]; exact g4⟩
    ·cases h
   ·cases h
  ·cases h
 ·
  rename_i ti sz id off len k n ht hxa hia
  rw [hxa] at hx; rw [hia] at hi
  split at h
  ·rename_i e he
   split at h
   ·rename_i te hte
    split at h
    ·rename_i hsz
     injection h with h; injection h with h1 h2; subst h1; subst h2
     obtain ⟨d,ii,z,hd,hii,_,_,_,hk,_⟩:=ao ht
     rw [hk] at he
     have:=cG he; subst this
     obtain ⟨d',i',z',hd',hi',_,hsi,_⟩:=ao hte
     simp only [Rv] at hx hi
     obtain ⟨hU,hesz,a,cap,hxv,hc1,hc3⟩:=hx
     rcases hc3 with rfl|⟨b,o,rfl,hall⟩
     ·omega
     ·rw [hxv,hi]
      refine ⟨_,jP hd hi' b o _ cap k n hs.1 hs.2 c.w,?_⟩
      simp only [Rv]
      refine ⟨hU,_,_,rfl,fun e' he'=>?_⟩
      obtain ⟨q1,q2,q3,q4⟩:=hall e' he'
      refine ⟨q1,q2,?_⟩
      have q5:=hesz e' he'
      rw [q3,←hsi,hsz,←q5,Nat.add_mul]; omega
    ·cases h
   ·cases h
  ·cases h
 ·
  rename_i ti id idx off k n ht hxa hia
  rw [hxa] at hx; rw [hia] at hi
  split at h
  ·rename_i m e he
   split at h
   ·rename_i te hte
    injection h with h; injection h with h1 h2; subst h1; subst h2
    obtain ⟨d,ii,z,hd,hii,_,_,_,hk,_⟩:=ao ht
    rw [hk] at he
    have:=g_ he; subst this
    obtain ⟨d',i',z',hd',hi',_,hsi,_⟩:=ao hte
    simp only [Rv] at hx hi
    obtain ⟨hU,b,o,hxv,hall⟩:=hx
    rw [hxv,hi]
    refine ⟨_,jO hd hi' b o k n hs.1 hs.2 c.w,?_⟩
    simp only [Rv]
    refine ⟨hU,_,_,rfl,fun e' he'=>?_⟩
    obtain ⟨q1,q2,q3⟩:=hall e' he'
    exact ⟨q1,q2,by rw [q3,hsi]; omega⟩
   ·cases h
  ·cases h
 ·rename_i ti cs k n ht hxa hia
  rw [hxa] at hx; rw [hia] at hi
  split at h
  ·rename_i m e he
   split at h
   ·rename_i te hte
    injection h with h; injection h with h1 h2; subst h1; subst h2
    obtain ⟨d,ii,z,hd,hii,_,_,_,hk,_⟩:=ao ht
    rw [hk] at he
    have:=g_ he; subst this
    obtain ⟨d',i',z',hd',hi',_,hsi,_⟩:=ao hte
    simp only [Rv] at hx hi
    obtain ⟨b,o,vs,hxv,hb,hF,g0,g1,g2⟩:=hx
    rw [hxv,hi]
    refine ⟨_,jO hd hi' b o k n hs.1 hs.2 c.w,?_⟩
    simp only [Rv]
    refine ⟨b,o+n.toNat*i'.size,vs.drop (n.toNat*i'.size),rfl,hb,hF,fun u hu=>g0 u (List.mem_of_mem_drop hu),?_,g2.drop _⟩
    rw [hsi]; exact g1.drop _
   ·cases h
  ·cases h
 ·cases h
theorem Fw {t:TypeId} {x i:Operand} (h:iL P ρA (.index t x i)=some (s,v)) (hs:s):∃r,(Instr.index t (ρ x) (ρ i)).run P c.w = .ok r c.w∧Rv c v r:=by
 have hx:=hr x
 have hi:=hr i
 simp only [iL] at h
 split at h
 ·rename_i ti st k n ht hxa hia
  rw [hxa] at hx; rw [hia] at hi
  split at h
  ·rename_i he
   injection h with h; injection h with h1 h2; subst h1; subst h2
   obtain ⟨d,ii,z,hd,hii,_,_,_,hk,_⟩:=ao ht
   rw [hk] at he
   have:=h_ he; subst this
   simp only [Rv] at hx hi
   rw [hx,hi]
   have hlt:n.toNat<st.size:=by omega
   refine ⟨_,?_,rfl⟩
   simp only [Instr.index,Sem.run_bind,asIntOf,Sem.run_pure,Result.andThen_ok,run_underlying hd,hs.1,if_true]
   have:st[n.toNat]?=some (st.data.toList.getD n.toNat 0):=by
    rw [List.getD_eq_getElem?_getD,Array.getElem?_toList]
    have h1:st.data[n.toNat]?=some st.data[n.toNat]:=Array.getElem?_eq_getElem hlt
    rw [h1]
    simp only [Option.getD_some]
    exact getElem?_pos st n.toNat hlt
   rw [this]
   rfl
  ·cases h
 ·rename_i ti cs k n ht hxa hia
  rw [hxa] at hx; rw [hia] at hi
  split at h
  ·rename_i m e he
   split at h
   ·rename_i te hte
    injection h with h; injection h with h1 h2; subst h1; subst h2
    obtain ⟨d,ii,z,hd,hii,_,_,_,hk,_⟩:=ao ht
    rw [hk] at he
    have:=g_ he; subst this
    obtain ⟨d',i',z',hd',hi',_,hsi,_,hk',_⟩:=ao hte
    obtain ⟨vs,hxv,g1,g2⟩:=lH hx
    simp only [Rv] at hi
    rw [hxv,hi]
    have hp:=oS (P:=P) hd' hi' g1 g2 (n.toNat*te.size) (by rw [←hsi]; exact hs.2.2) (fun hg=>by rw [←hsi]; exact pF hte (by rw [hk']; exact hg))
    obtain ⟨r,hr1,hr2⟩:=hp
    refine ⟨r,?_,by rw [hk',hsi] at *; exact hr2⟩
    simp only [Instr.index,Sem.run_bind,asIntOf,Sem.run_pure,Result.andThen_ok,run_underlying hd,hs.1,hs.2.1,and_self,if_true,bo hi']
    rw [←hsi]; exact hr1
   ·cases h
  ·cases h
 ·cases h
theorem Fv {t:TypeId} {x:Operand} {f:Nat} (h:iL P ρA (.field t x f)=some (s,v)) (hs:s):∃r,(Instr.field t (ρ x) f).run P c.w = .ok r c.w∧Rv c v r:=by
 have hx:=hr x
 simp only [iL] at h
 split at h
 ·rename_i ti ht
  split at h
  ·rename_i fs hk
   split at h
   ·rename_i off tt hf
    split at h
    ·rename_i tf cs htf hxa
     injection h with h; injection h with h1 h2; subst h1; subst h2
     rw [hxa] at hx
     obtain ⟨d,ii,z,hd,hii,_,_,_,hk0,_⟩:=ao ht
     rw [hk0] at hk
     obtain ⟨fields,rfl,rfl⟩:=mv hk
     obtain ⟨fd,hfd,rfl,rfl⟩:=qh hf
     obtain ⟨d',i',z',hd',hi',_,hsi,_,hk',_⟩:=ao htf
     obtain ⟨vs,hxv,g1,g2⟩:=lH hx
     rw [hxv]
     have hp:=oS (P:=P) hd' hi' g1 g2 fd.offset (by rw [←hsi]; exact hs) (fun hg=>by rw [←hsi]; exact pF htf (by rw [hk']; exact hg))
     obtain ⟨r,hr1,hr2⟩:=hp
     refine ⟨r,?_,by rw [hk',hsi] at *; exact hr2⟩
     simp only [Instr.field,Sem.run_bind,run_underlying hd,Result.andThen_ok,hfd,asAgg,Sem.run_pure]
     exact hr1
    ·cases h
   ·cases h
  ·cases h
 ·cases h
theorem uZ {t:TypeId} {x:Operand} {f:Nat} (h:iL P ρA (.fieldAddr t x f)=some (s,v)) (hs:s):∃r,(Instr.fieldAt t (ρ x) f).run P c.w = .ok r c.w∧Rv c v r:=by
 have hx:=hr x
 simp only [iL] at h
 split at h
 ·rename_i ti ht
  split at h
  ·rename_i fs hk
   split at h
   ·rename_i off tt hf
    split at h
    ·rename_i tf htf
     split at h
     ·cases h
     ·rename_i hne
      split at h
      ·rename_i id idx o hxa
       injection h with h; injection h with h1 h2; subst h1; subst h2
       rw [hxa] at hx
       simp only [Rv] at hx
       obtain ⟨hU,b,o',hxv,hall⟩:=hx
       rw [hxv]
       refine ⟨_,jL ht hk hf htf hne b o' c.w,?_⟩
       simp only [Rv]
       refine ⟨hU,_,_,rfl,fun e' he'=>?_⟩
       obtain ⟨q1,q2,q3⟩:=hall e' he'
       exact ⟨q1,q2,by rw [q3]; omega⟩
      ·rename_i cs hxa
       injection h with h; injection h with h1 h2; subst h1; subst h2
       rw [hxa] at hx
       simp only [Rv] at hx
       obtain ⟨b,o',vs,hxv,hb,hF,g0,g1,g2⟩:=hx
       rw [hxv]
       refine ⟨_,jL ht hk hf htf hne b o' c.w,?_⟩
       simp only [Rv]
       exact ⟨b,o'+off,vs.drop off,rfl,hb,hF,fun u hu=>g0 u (List.mem_of_mem_drop hu),g1.drop _,g2.drop _⟩
      ·cases h
    ·cases h
   ·cases h
  ·cases h
 ·cases h
theorem Fu {t:TypeId} {parts:Array (Nat×Operand)} (h:iL P ρA (.build t parts)=some (s,v)) (hs:s):∃r,(Instr.build t (parts.map fun (i,x)=>(i,ρ x))).run P c.w = .ok r c.w∧Rv c v r:=by
 simp only [iL] at h
 split at h
 ·rename_i ti ht
  obtain ⟨d,ii,z,hd,hii,hz,_,_,hk0,hz0,hzs,hz1,_,hall⟩:=ao ht
  have hzr:Rl c ti.zero z.cells.toList:=by
   rw [hz0]
   refine Rl.of_get (by simp) fun i a u h1 h2=>?_
   rw [List.getElem?_map,h2] at h1
   simp only [Option.map_some,Option.some.injEq] at h1
   subst h1; exact no c u
  have hmap:((parts.map fun (i,x)=>(i,ρ x)).toList)=parts.toList.map fun p=>(p.1,ρ p.2):=by simp
  split at h
  ·rename_i fs hk
   rw [hk0] at hk
   obtain ⟨fields,rfl,rfl⟩:=mv hk
   cases hfl:gM (fun i:Nat=>((fields.toList.map fun f=>(f.offset,f.type))[i]?).bind fun p:Nat×TypeId=>(ak P p.2).map fun tf=>(p.1,tf.size)) ρA parts.toList ti.zero with
   | none=>rw [hfl] at h; cases h
   | some cs =>
    rw [hfl] at h
    simp only [Option.map_some,Option.some.injEq,Prod.mk.injEq] at h
    obtain ⟨_,rfl⟩:=h
    have hmm:∃places:Array (Nat×Nat),(fields.mapM fun f=>do pure (f.offset,←sizeOf f.type):Sem (Array (Nat×Nat))).run P c.w = .ok places c.w ∧
     ∀i:Nat,((fields.toList.map fun f=>(f.offset,f.type))[i]?).bind (fun p:Nat×TypeId=>(ak P p.2).map fun tf=>(p.1,tf.size))≠none →
      ((fields.toList.map fun f=>(f.offset,f.type))[i]?).bind (fun p:Nat×TypeId=>(ak P p.2).map fun tf=>(p.1,tf.size))=places[i]?:=by
     simp only [rM,List.all_eq_true] at hall
     refine ⟨fields.map fun f=>(f.offset,((P.info? f.type).map (·.size)).getD 0),?_,?_⟩
     ·refine pe _ _ c.w fields fun f hf=>?_
      obtain ⟨i,hi⟩:=Option.isSome_iff_exists.1 (hall f (by simpa using hf))
      simp only [Sem.run_bind,bo hi,Result.andThen_ok,Sem.run_pure,hi,Option.map_some,Option.getD_some]
     ·intro i hne
      rw [List.getElem?_map] at hne ⊢
      rw [Array.getElem?_map,←Array.getElem?_toList]
      cases hf:fields.toList[i]? with
      | none=>rw [hf] at hne; simp at hne
      | some f =>
       rw [hf] at hne
       simp only [Option.map_some,Option.bind_some] at hne ⊢
       cases ht':ak P f.type with
       | none=>rw [ht'] at hne; simp at hne
       | some tf =>
        obtain ⟨d',i',z',hd',hi',_,hsi,_⟩:=ao ht'
        simp only [Option.map_some,hi',Option.getD_some,hsi]
    obtain ⟨places,hp1,hp2⟩:=hmm
    obtain ⟨vs',e1,e2,e3⟩:=mH hr _ (fun i:Nat=>places[i]?) hp2 parts.toList _ cs z.cells hfl hz1 hzr
    refine ⟨.agg vs',?_,?_⟩
    ·simp only [Instr.build,Sem.run_bind,zeroValue,typeInfo,run_program,Result.andThen_ok,hii,Sem.run_pure,hz,run_underlying hd,hp1,hmap,e1]
    ·simp only [Rv]; exact ⟨vs',rfl,e2,e3⟩
  ·rename_i m e hk
   rw [hk0] at hk
   have:=g_ hk; subst this
   split at h
   ·rename_i te hte
    obtain ⟨d',i',z',hd',hi',_,hsi,_⟩:=ao hte
    cases hfl:gM (fun i=>some (i*te.size,te.size)) ρA parts.toList ti.zero with
    | none=>rw [hfl] at h; cases h
    | some cs =>
     rw [hfl] at h
     simp only [Option.map_some,Option.some.injEq,Prod.mk.injEq] at h
     obtain ⟨_,rfl⟩:=h
     obtain ⟨vs',e1,e2,e3⟩:=mH hr _ (fun i=>some (i*te.size,te.size)) (fun _ _=>rfl) parts.toList _ cs z.cells hfl hz1 hzr
     refine ⟨.agg vs',?_,?_⟩
     ·rw [hsi] at e1
      simp only [Instr.build,Sem.run_bind,zeroValue,typeInfo,run_program,Result.andThen_ok,hii,Sem.run_pure,hz,run_underlying hd,bo hi',hmap,e1]
     ·simp only [Rv]; exact ⟨vs',rfl,e2,e3⟩
   ·cases h
  ·cases h
 ·cases h
end
theorem AW {P:Program} {c:Cx} {ρA:Operand→AV} {ρ:Operand→Value} (hr:∀x,Rv c (ρA x) (ρ x)) {s:Prop} {v:AV} {o:Oper} (h:iL P ρA o.op=some (s,v)) (hs:s):iP P c (execOp ρ o) v:=by
 obtain ⟨dst,op,ty,pos,after,guard⟩:=o
 simp only at h
 cases op<;>(try (simp only [iL] at h; cases h; done))
 case move x =>
  simp only [iL] at h; injection h with h; injection h with h1 h2; subst h2
  exact ⟨ρ x,rfl,hr x⟩
 case assign x =>
  simp only [iL] at h; injection h with h; injection h with h1 h2; subst h2
  exact ⟨ρ x,rfl,hr x⟩
 case pick q a b =>
  simp only [iL] at h
  split at h
  ·rename_i t hq
   injection h with h; injection h with h1 h2; subst h2
   have:=hr q; rw [hq] at this; simp only [Rv] at this
   cases t
   ·exact ⟨ρ b,by simp [execOp,this,asBool],by simpa using hr b⟩
   ·exact ⟨ρ a,by simp [execOp,this,asBool],by simpa using hr a⟩
  ·cases h
 case build t parts=>exact iP.of (Fu hr h hs)
 case nilCheck x =>
  simp only [iL] at h
  have hx:=hr x
  split at h
  ·rename_i id idx off hxa
   injection h with h; injection h with h1 h2; subst h2
   rw [hxa] at hx
   have hx':=hx
   simp only [Rv] at hx
   obtain ⟨hU,b,o,hxv,hall⟩:=hx
   rw [hxv] at hx'
   exact ⟨_,by simp only [execOp,hxv]; rfl,hx'⟩
  ·rename_i cs hxa
   injection h with h; injection h with h1 h2; subst h2
   rw [hxa] at hx
   have hx':=hx
   simp only [Rv] at hx
   obtain ⟨b,o,vs,hxv,hall⟩:=hx
   rw [hxv] at hx'
   exact ⟨_,by simp only [execOp,hxv]; rfl,hx'⟩
  ·cases h
 case binOp op t x y yt =>
  simp only [iL] at h
  have hx:=hr x
  have hy:=hr y
  split at h
  ·rename_i a hxa
   split at h
   ·rename_i ti ht
    split at h
    ·rename_i hk
     obtain ⟨d,ii,z,hd,_,_,_,_,hk0,_⟩:=ao ht
     rw [hk0] at hk
     have:=Fo hk; subst this
     rw [hxa] at hx; simp only [Rv] at hx
     obtain ⟨r,h1,h2⟩:=y5 (t:=t) hd h hy
     refine ⟨r,dk ?_,h2⟩
     rw [hx]
     simp only [Sem.run_bind,iu (P:=P) (op:=op) (t:=t) (xo:=x) (yo:=y) (a := .bool a) (b:=ρ y) c.w ⟨by simp,by simp⟩,Result.andThen_ok]
     exact h1
    ·cases h
   ·cases h
  ·rename_i k a hxa
   rw [hxa] at hx; simp only [Rv] at hx
   obtain ⟨r,h1,h2⟩:=Bh (P:=P) (t:=t) h hs hy
   refine ⟨r,dk ?_,h2⟩
   rw [hx]
   simp only [Sem.run_bind,iu (P:=P) (op:=op) (t:=t) (xo:=x) (yo:=y) (a := .int k a) (b:=ρ y) c.w ⟨by simp,by simp⟩,Result.andThen_ok]
   exact h1
  ·rename_i a hxa
   rw [hxa] at hx; simp only [Rv] at hx
   obtain ⟨r,h1,h2⟩:=Bi (P:=P) (t:=t) h hs hy
   refine ⟨r,dk ?_,h2⟩
   rw [hx]
   simp only [Sem.run_bind,iu (P:=P) (op:=op) (t:=t) (xo:=x) (yo:=y) (a := .string a) (b:=ρ y) c.w ⟨by simp,by simp⟩,Result.andThen_ok]
   exact h1
  ·rename_i cs hxa
   rw [hxa] at hx
   obtain ⟨r,h0,h1,h2⟩:=tv (xo:=x) (yo:=y) h hs hx hy
   refine ⟨r,dk ?_,h2⟩
   simp only [Sem.run_bind,h0,Result.andThen_ok]
   exact h1
  ·cases h
 case unOp op t x=>simp only [iL] at h; exact iP.of (AQ h (hr x))
 case makeFunc fn first cap =>
  simp only [iL] at h; injection h with h; injection h with h1 h2; subst h2
  refine ⟨_,by simp only [execOp,Instr.makeFunc]; rfl,?_⟩
  simp only [Rv]
  exact ⟨_,_,rfl,by simpa using Rl.map hr first.toList,by simpa using Rl.map hr cap.toList⟩
 case fieldAddr t x f=>exact iP.of (uZ hr h hs)
 case field t x f=>exact iP.of (Fv hr h hs)
 case indexAddr t x i=>exact iP.of (u_ hr h hs)
 case index t x i=>exact iP.of (Fw hr h hs)
 case extract x i =>
  simp only [iL] at h
  have hx:=hr x
  split at h
  ·rename_i cs hxa
   injection h with h; injection h with h1 h2; subst h1; subst h2
   rw [hxa] at hx; simp only [Rv] at hx
   obtain ⟨vs,hxv,hl⟩:=hx
   obtain ⟨u,hu,hru⟩:=hl.get i _ (List.getElem?_eq_getElem hs)
   refine iP.of ⟨u,?_,?_⟩
   ·have hu':vs[i]?=some u:=by simpa using hu
    simp only [Instr.extract,hxv,hu',Sem.run_pure]
   ·rw [List.getD_eq_getElem?_getD,List.getElem?_eq_getElem hs]; exact hru
  ·cases h
 case slice t x lo hi mx =>
  simp only [iL] at h
  have hx:=hr x
  split at h
  ·rename_i ti lo' hi' mx' ht hlo hhi hmx
   obtain ⟨d,ii,z,hd,_,_,_,_,hk0,_⟩:=ao ht
   split at h
   ·rename_i e sz tight l hk hxa
    rw [hk0] at hk
    have:=cG hk; subst this
    rw [hxa] at hx
    split at h
    ·rename_i te hte
     obtain ⟨d',i',z',hd',hi'',_,hsi,_⟩:=ao hte
     split at h
     ·rename_i hsz
      split at h
      ·cases h
      ·rename_i h4
       exact iP.of (Dv hd hi'' (by rw [←hsi]; exact hsz) hx (cn hr hlo) (cn hr hhi) (cn hr hmx) (by simpa using h4) h hs)
     ·cases h
    ·cases h
   ·rename_i e sz id off len hk hxa
    rw [hk0] at hk
    have:=cG hk; subst this
    rw [hxa] at hx
    split at h
    ·rename_i te hte
     obtain ⟨d',i',z',hd',hi'',_,hsi,_⟩:=ao hte
     split at h
     ·rename_i hsz
      split at h
      ·cases h
      ·rename_i h4
       exact iP.of (AH hd hi'' (by rw [←hsi]; exact hsz) hx (cn hr hlo) (cn hr hhi) (cn hr hmx) (by simpa using h4) h hs)
     ·cases h
    ·cases h
   ·rename_i st hk hxa
    rw [hk0] at hk
    have:=h_ hk; subst this
    rw [hxa] at hx; simp only [Rv] at hx
    have hm:=cn hr hmx
    rcases hm with ⟨hm0,rfl⟩|⟨k,m,_,rfl⟩
    ·have:=AI (P:=P) (c:=c) hd (cn hr hlo) (cn hr hhi) h hs
     rw [←hx,←hm0] at this
     exact iP.of this
    ·simp [c9] at h
   ·cases h
  ·cases h
 case call cl =>
  obtain ⟨callee,args,argTypes⟩:=cl
  simp only [iL] at h
  split at h
  ·
   split at h
   ·rename_i t x htl hxl
    have ha:args = #[x]:=by
     have:=congrArg List.toArray hxl; simpa using this
    have hat:argTypes = #[t]:=by
     have:=congrArg List.toArray htl; simpa using this
    have hx:=hr x
    subst ha; subst hat
    have hex:∀r,(Builtin.len_ #[t] ty #[ρ x]).run P c.w = .ok r c.w→(execOp ρ ⟨dst,.call ⟨.builtin .len,#[x],#[t]⟩,ty,pos,after,guard⟩).run P c.w = .ok (.value r) c.w:=fun r hrun=>by
     simp only [execOp,resolve,Sem.run_bind,Sem.run_pure,Result.andThen_ok,invoke,builtin,List.map_toArray,List.map_cons,List.map_nil,hrun]
    split at h
    ·rename_i ti st ht hxa
     split at h
     ·rename_i hk
      injection h with h; injection h with h1 h2; subst h2
      obtain ⟨d,ii,z,hd,_,_,_,_,hk0,_⟩:=ao ht
      rw [hk0] at hk; have:=h_ hk; subst this
      rw [hxa] at hx; simp only [Rv] at hx
      exact ⟨_,hex _ (by simp [Builtin.len_,run_underlying hd,hx]; rfl),rfl⟩
     ·cases h
    ·rename_i ti sz tg l ht hxa
     split at h
     ·rename_i e hk
      injection h with h; injection h with h1 h2; subst h2
      obtain ⟨d,ii,z,hd,_,_,_,_,hk0,_⟩:=ao ht
      rw [hk0] at hk; have:=cG hk; subst this
      rw [hxa] at hx; simp only [Rv] at hx
      obtain ⟨a,cap,hxv,_⟩:=hx
      exact ⟨_,hex _ (by simp [Builtin.len_,run_underlying hd,hxv]; rfl),rfl⟩
     ·cases h
    ·rename_i ti sz id off len ht hxa
     split at h
     ·rename_i e hk
      injection h with h; injection h with h1 h2; subst h2
      obtain ⟨d,ii,z,hd,_,_,_,_,hk0,_⟩:=ao ht
      rw [hk0] at hk; have:=cG hk; subst this
      rw [hxa] at hx; simp only [Rv] at hx
      obtain ⟨_,_,a,cap,hxv,_⟩:=hx
      exact ⟨_,hex _ (by simp [Builtin.len_,run_underlying hd,hxv]; rfl),rfl⟩
     ·cases h
    ·rename_i ti ht _ _ _
     split at h
     ·rename_i n e hk
      injection h with h; injection h with h1 h2; subst h2
      obtain ⟨d,ii,z,hd,_,_,_,_,hk0,_⟩:=ao ht
      rw [hk0] at hk; have:=g_ hk; subst this
      exact ⟨_,hex _ (by simp [Builtin.len_,run_underlying hd]; rfl),rfl⟩
     ·cases h
    ·cases h
   ·cases h
  ·split at h
   ·rename_i x y hxl
    have ha:args = #[x,y]:=by
     have:=congrArg List.toArray hxl; simpa using this
    subst ha
    split at h
    ·rename_i k a k' b hxa hya
     injection h with h; injection h with h1 h2; subst h2
     have hx:=hr x; have hy:=hr y
     rw [hxa] at hx; rw [hya] at hy; simp only [Rv] at hx hy
     refine ⟨_,?_,rfl⟩
     simp only [execOp,resolve,Sem.run_bind,Sem.run_pure,Result.andThen_ok,invoke,builtin,List.map_toArray,List.map_cons,List.map_nil,Builtin.max_,List.foldlM_cons,List.foldlM_nil,hx,hy,Builtin.max2]
    ·cases h
   ·cases h
  ·split at h
   ·rename_i x y hxl
    have ha:args = #[x,y]:=by
     have:=congrArg List.toArray hxl; simpa using this
    subst ha
    split at h
    ·rename_i k a k' b hxa hya
     injection h with h; injection h with h1 h2; subst h2
     have hx:=hr x; have hy:=hr y
     rw [hxa] at hx; rw [hya] at hy; simp only [Rv] at hx hy
     refine ⟨_,?_,rfl⟩
     simp only [execOp,resolve,Sem.run_bind,Sem.run_pure,Result.andThen_ok,invoke,builtin,List.map_toArray,List.map_cons,List.map_nil,Builtin.min_,List.foldlM_cons,List.foldlM_nil,hx,hy,Builtin.min2]
    ·cases h
   ·cases h
  ·cases h
theorem j6 {P:Program} {w:World} {b o:Nat} {vs:List Value} (h:aD w b o vs) (n:Nat) (hn:n≤vs.length):(loadCells ⟨b,o,none⟩ n).run P w = .ok (vs.take n).toArray w:=by
 have:=run_loadCells_list (P:=P) w ⟨b,o,none⟩ (vs.take n) (fun j v hj=>by rw [fH]; exact h.take n j v hj)
 rwa [List.length_take,Nat.min_eq_left hn] at this
theorem oI {P:Program} {c:Cx} {t:TypeId} {ti:TI} (ht:ak P t=some ti) {cs:List AV} {vs:List Value} {b o:Nat} (h1:∀u∈vs,u.oneCell'=true) (hl:Rl c cs vs) (hc:aD c.w b o vs)
 (hs:ti.size≤cs.length∧(ti.kind.agg=true∨0<cs.length)) :
 ∃r,(Instr.loadAt t (.pointer (some ⟨b,o,none⟩))).run P c.w = .ok r c.w∧Rv c (dD ti.kind.agg (if ti.kind.agg then cs.take ti.size else cs)) r:=by
 obtain ⟨d,i,z,hd,hi,_,hsz,_,hk,_⟩:=ao ht
 have hlen:=hl.length
 simp only [Instr.loadAt,Sem.run_bind,Instr.sureAddr,Sem.run_pure,Result.andThen_ok,loadVar,ma hd,←hk]
 cases hg:ti.kind.agg with
 | true =>
  simp only [if_true,Sem.run_bind,bo hi,Result.andThen_ok,dD]
  rw [j6 hc i.size (by rw [hlen,←hsz]; exact hs.1)]
  refine ⟨_,rfl,?_⟩
  simp only [Rv]
  exact ⟨_,rfl,fun u hu=>h1 u (List.mem_of_mem_take (by simpa using hu)),by rw [hsz]; simpa using hl.take i.size⟩
 | false =>
  simp only [Bool.false_eq_true,if_false,dD]
  have h0:0<cs.length:=hs.2.resolve_left (by simp [hg])
  obtain ⟨u,hu,hr⟩:=hl.get 0 _ (List.getElem?_eq_getElem h0)
  have hcell:=hc 0 u hu
  rw [Nat.add_zero] at hcell
  refine ⟨u,by rw [run_load,hcell],?_⟩
  have:cs.headD .any=cs[0]:=by rw [List.headD_eq_head?_getD,List.head?_eq_getElem?,List.getElem?_eq_getElem h0]; rfl
  rw [this]; exact hr
theorem mF {c:Cx}:∀(l:List AV) (ns:List Int) (b o:Nat),A6 l=some ns→Re c 1 l b o→aD c.w b o (ns.map (Value.int .u8))∧ns.length=l.length
 | [],ns,b,o,h,_=>by
  simp only [A6,Option.some.injEq] at h; subst h
  exact ⟨fun i v hv=>by simp at hv,rfl⟩
 | a::l,ns,b,o,h,hre=>by
  simp only [A6] at h
  split at h
  ·rename_i n
   cases hu:A6 l with
   | none=>rw [hu] at h; cases h
   | some ms =>
    rw [hu] at h
    simp only [Option.map_some,Option.some.injEq] at h; subst h
    simp only [Re] at hre
    obtain ⟨⟨v,h1,h2,h3,h4,h5⟩,h6⟩:=hre
    obtain ⟨g1,g2⟩:=mF l ms b (o+1) hu h6
    simp only [Rv] at h1; subst h1
    refine ⟨?_,by simp [g2]⟩
    rw [List.map_cons,←List.singleton_append]
    refine aD.append ?_ (by simpa using g1)
    simpa [Value.cells] using h5
  ·cases h
theorem tC {P:Program} {c:Cx} {src dst:TypeId} {ts td:TI} (hts:ak P src=some ts) (htd:ak P dst=some td) {l:List AV} {p s:Prop} {v:AV} (h:jT P (some ts) (some td) (some l) p=some (s,v)) {b o cap:Nat} (hre:Re c 1 l b o) :
 ∃r,(convert src dst (.slice (some ⟨b,o,none⟩) l.length cap)).run P c.w = .ok r c.w∧Rv c v r:=by
 simp only [jT] at h
 split at h
 ·rename_i e hk1 hk2
  simp only [sT] at h
  split at h
  ·rename_i ns hb hu
   injection h with h; injection h with h1 h2; subst h2
   obtain ⟨d,ii,z,hd,_,_,_,_,hk,_⟩:=ao hts
   obtain ⟨d',ii',z',hd',_,_,_,_,hk',_⟩:=ao htd
   rw [hk] at hk1; rw [hk'] at hk2
   have:=cG hk1; subst this
   have:=h_ hk2; subst this
   simp only [tx] at hb
   split at hb
   ·rename_i te hte
    split at hb
    ·rename_i hk3
     obtain ⟨d3,_,_,hd3,_,_,_,_,hk4,_⟩:=ao hte
     rw [hk4] at hk3
     have:=xv hk3; subst this
     simp only [Option.bind_some] at hu
     obtain ⟨g1,g2⟩:=mF l ns b o hu hre
     refine ⟨.string (Dx ns),?_,rfl⟩
     rw [run_convert_bytes_string c.w src dst e _ _ _ hd hd3 hd']
     refine run_bytesToString c.w _ _ _ ns ?_
     have:=j6 (P:=P) g1 l.length (by simp [g2])
     rw [this,List.take_of_length_le (by simp [g2])]
    ·cases hb
   ·cases hb
  ·cases h
 ·cases h
theorem vI {P:Program} {c:Cx} {f:Nat→BS} (hk:HOk c f) {src dst:TypeId} {x:AV} {vx:Value} (hx:Rv c x vx) {s:Prop} {v:AV} (h:jK P f (ak P src) (ak P dst) x=some (s,v)) (hs:s):∃r,(convert src dst vx).run P c.w = .ok r c.w∧Rv c v r:=by
 cases hts:ak P src with
 | none=>rw [hts] at h; cases x<;>simp only [jK,jT] at h<;>cases h
 | some ts =>
  cases htd:ak P dst with
  | none=>rw [hts,htd] at h; cases x<;>simp only [jK,jT] at h<;>cases h
  | some td =>
   rw [hts,htd] at h
   cases x<;>simp only [jK] at h<;>try (cases h; done)
   case int kk n =>
    split at h
    ·rename_i k' hk'
     injection h with h; injection h with h1 h2; subst h2
     simp only [Rv] at hx
     obtain ⟨d,ii,z,hd,_,_,_,_,hk0,_⟩:=ao htd
     rw [hk0] at hk'
     have:=xv hk'; subst this
     obtain ⟨d2,_,_,hd2,_⟩:=ao hts
     refine ⟨.int k' (k'.wrap n),?_,rfl⟩
     rw [hx]
     simp only [convert,Sem.run_bind,run_underlying hd,run_underlying hd2,Result.andThen_ok]
     rfl
    ·cases h
   case sl sz tg l =>
    simp only [Rv] at hx
    obtain ⟨a,cap,rfl,h1,h2,h3⟩:=hx
    have hs':l≠[]∧sz=1:=by
     simp only [jT,b_,sT,Option.bind_some] at h
     repeat' (first|cases h|split at h)
     rename_i hu
     refine ⟨?_,hs.2⟩
     rintro rfl
     simp only [A6,Option.some.injEq] at hu; subst hu
     exact hs.1 rfl
    obtain ⟨g1,rfl⟩:=hs'
    rcases h3 with h3|⟨b,o,rfl,hb,hF,hre⟩
    ·exact absurd h3 g1
    ·exact tC hts htd h hre
   case own sz id off len =>
    simp only [b_] at h
    cases hf:f id with
    | live sz' l =>
     rw [hf] at h
     simp only [Rv] at hx
     obtain ⟨hU,hesz,a,cap,rfl,h1,h2⟩:=hx
     obtain ⟨e,he,h3,h4,h5⟩:=hk.live id sz' l hf
     have hse:=hesz e he
     have hs':(l.drop off).take len≠[]∧sz=1∧off+len≤l.length:=by
      simp only [jT,sT,Option.bind_some] at h
      repeat' (first|cases h|split at h)
      rename_i hu
      have h6:=hs.2.2
      simp only [cX,hf] at h6
      refine ⟨?_,hs.2.1,h6⟩
      intro h7
      rw [h7] at hu
      simp only [A6,Option.some.injEq] at hu; subst hu
      exact hs.1 rfl
     obtain ⟨g1,rfl,g3⟩:=hs'
     have hlen:((l.drop off).take len).length=len:=by simp; omega
     have hr:e.real=true:=by
      cases hr:e.real with
      | true=>rfl
      | false=>have:=h4 hr; subst this; simp at g1
     obtain ⟨hre,_⟩:=h5 hr
     rcases h2 with rfl|⟨b,o,rfl,hall⟩
     ·have:len=0:=by omega
      subst this; simp at g1
     ·obtain ⟨_,rfl,rfl,_⟩:=hall e he
      have hre':=hre.slice off len
      have hsz1:sz'=1:=by omega
      subst hsz1
      have:=tC (cap:=cap) hts htd h hre'
      rw [hlen] at this
      rw [hse]; exact this
    | fresh=>rw [hf] at h; simp only [eN] at h; cases h
    | dead=>rw [hf] at h; simp only [eN] at h; cases h
    | obj o t=>rw [hf] at h; simp only [eN] at h; cases h
theorem mM {P:Program} {t:TypeId} {kd:IntKind} (h:jc P t=some kd):∃k e,P.underlying t=some (.map k e)∧P.underlying k=some (.int kd):=by
 unfold jc at h
 split at h
 ·rename_i k e hk
  split at h
  ·rename_i kd' hk'
   injection h with h; subst h
   exact ⟨k,e,hk,hk'⟩
  ·cases h
 ·cases h
theorem lj {P:Program} {k:TypeId} {kd:IntKind} (h:P.underlying k=some (.int kd)) (b:Bool) (n m:Int) (w:World):(Instr.checkKey b 10000 k (.int kd n)).run P w = .ok () w:=by
 rw [show (10000:Nat)=9999+1 from rfl]
 generalize 9999=d
 unfold Instr.checkKey
 simp only [Sem.run_bind,run_underlying h,Result.andThen_ok,Sem.run_pure]
theorem og {kd:IntKind} {n:Int}:∀(es:List MapEntry) (i:Nat) (r:Option Nat),gT kd n (es.map fun e=>e.key) i=some r →
 Instr.findNow (.int kd) (.int kd n) es i=some (r.map fun j=>(j,((es.map fun e=>e.val)[j-i]?).getD undef))∧∀j,r=some j→i≤j∧j-i<es.length
 | [],i,r,h=>by
  simp only [List.map_nil,gT,Option.some.injEq] at h
  subst h; exact ⟨rfl,fun j h=>by cases h⟩
 | e::es,i,r,h=>by
  obtain ⟨ky,vl,bn⟩:=e
  simp only [List.map_cons] at h
  cases ky
  case int kd' m =>
   simp only [gT] at h
   split at h
   ·rename_i hk; subst hk
    split at h
    ·rename_i hm; subst hm
     injection h with h; subst h
     refine ⟨?_,fun j h=>?_⟩
     ·simp [Instr.findNow,Instr.sameNow]
     ·injection h with h; subst h; simp
    ·rename_i hm
     obtain ⟨g1,g2⟩:=og es (i+1) r h
     refine ⟨?_,fun j hj=>?_⟩
     ·have hb:(n == m)=false:=by simpa using hm
      simp only [Instr.findNow,Instr.sameNow,if_true,hb,g1]
      cases r with
      | none=>rfl
      | some j =>
       obtain ⟨g3,g4⟩:=g2 j rfl
       simp only [Option.map_some]
       rw [show j-i=(j-(i+1))+1 by omega]
       rfl
     ·obtain ⟨g3,g4⟩:=g2 j hj
      simp only [List.length_cons]; omega
   ·cases h
  all_goals (simp [gT] at h)
theorem oe {P:Program} {k:TypeId} {kd:IntKind} (h:P.underlying k=some (.int kd)) {n:Int} {es:List MapEntry} {r:Option Nat} (hk:gT kd n (es.map fun e=>e.key) 0=some r) (w:World) :
 (Instr.findKey k (.int kd n) es).run P w = .ok (r.map fun j=>(j,((es.map fun e=>e.val)[j]?).getD undef)) w:=by
 obtain ⟨g1,_⟩:=og es 0 r hk
 simp only [Instr.findKey,Sem.run_bind,run_underlying h,Result.andThen_ok,g1,Nat.sub_zero,Sem.run_pure]
theorem wB {P:Program} {c:Cx} {f:Nat→BS} (hk:HOk c f) {t:TypeId} {m k:AV} {vm vk:Value} (hm:Rv c m vm) (hkk:Rv c k vk) {s:Prop} {v:AV} (h:qx (jc P t) f m k=some (s,v)) (hs:s) :
 ∃r,(Instr.lookup t vm vk false).run P c.w = .ok r c.w∧Rv c v r:=by
 unfold qx at h
 split at h
 ·rename_i kd i kd' n hx
  split at h
  ·rename_i es cl tt hf
   split at h
   ·rename_i j hj
    injection h with h; injection h with h1 h2; subst h1; subst h2; subst hs
    obtain ⟨ky,el,hty,hky⟩:=mM hx
    simp only [Rv] at hm hkk
    subst hkk
    obtain ⟨hU,l,rfl,hall⟩:=hm
    obtain ⟨e,oo,he,hr,_,_,hS,hobj,hv,_⟩:=hk.obj i _ _ hf
    obtain ⟨_,rfl⟩:=hall e he
    simp only [kj] at hS
    obtain ⟨es',rfl,hes⟩:=hS
    rw [←hes] at hj
    have hfind:=oe (P:=P) hky hj c.w
    refine ⟨_,?_,hv j⟩
    have hget:(getObj e.block).run P c.w = .ok (.map es' cl) c.w:=by simp only [getObj,Sem.run,hobj]
    simp only [Instr.lookup,Sem.run_bind,run_underlying hty,Result.andThen_ok,hget,Sem.run_pure,lj hky _ _ n,hfind,Option.map_some,Bool.false_eq_true,if_false]
    simp [fu,Array.getD_eq_getD_getElem?]
   ·cases h
  ·cases h
 ·cases h
theorem qV {P:Program} {c:Cx} {f:Nat→BS} (hk:HOk c f) {ρA:Operand→AV} {ρ:Operand→Value} (hr:∀x,Rv c (ρA x) (ρ x)) {s:Prop} {v:AV} {o:Oper} (h:aS P f ρA o.op=some (s,v)) (hs:s):iP P c (execOp ρ o) v:=by
 obtain ⟨dst,op,ty,pos,after,guard⟩:=o
 simp only at h
 cases op<;>(try (simp only [aS] at h; cases h; done))
 case load t a =>
  simp only [aS] at h
  have ha:=hr a
  refine iP.of ?_
  split at h
  ·rename_i ti cs ht hxa
   injection h with h; injection h with h1 h2; subst h1; subst h2
   rw [hxa] at ha; simp only [Rv] at ha
   obtain ⟨b,o,vs,hxv,hb,hF,g0,g1,g2⟩:=ha
   rw [hxv]
   exact oI ht g0 g1 g2 hs
  ·rename_i ti id idx off ht hxa
   split at h
   ·rename_i sz l hf
    injection h with h; injection h with h1 h2; subst h1; subst h2
    rw [hxa] at ha; simp only [Rv] at ha
    obtain ⟨hU,b,o,hxv,hall⟩:=ha
    obtain ⟨e,he,hesz,hnr,hreal⟩:=hk.live id sz l hf
    obtain ⟨q1,rfl,rfl⟩:=hall e he
    obtain ⟨hre,_⟩:=hreal q1
    obtain ⟨vs,g1,g2,g3,g4⟩:=j3 hre (i:=(idx:Int)) (by omega) (by have:=hs.1; omega)
    rw [hxv,hesz]
    have hget:bk l (idx:Int)=l.getD idx .any:=by simp [bk]
    rw [hget] at g3
    exact oI ht (fun u hu=>g2 u (List.mem_of_mem_drop hu)) (g3.drop off) (by simpa using g4.drop off) hs.2
   ·cases h
  ·cases h
 case convert src dst' x =>
  simp only [aS] at h
  exact iP.of (vI hk (hr x) h hs)
 case lookup t m k ok =>
  cases ok with
  | true=>simp [aS] at h
  | false =>
   simp only [aS,cond_false] at h
   exact iP.of (wB hk (hr m) (hr k) h hs)
def Cx.more (c:Cx) (id:Nat) (o:Obj) (e:Ent):Cx :=
 { w:=c.w.alloc o,mu:=ar c.mu id (some e),U:=fun j=>c.U j∨j=id,F:=fun b=>c.F b∨b=c.w.heap.size }
theorem jN (w:World) (o:Obj):(w.alloc o).heap[w.heap.size]?=some o:=by unfold World.alloc; exact Array.getElem?_push_size
theorem Stp.more {c:Cx} {f:Nat→BS} (hk:HOk c f) {id:Nat} (hid:f id = .fresh) (o:Obj) (sz total:Nat):Stp c (c.more id o ⟨true,c.w.heap.size,0,sz,total⟩) where
 os:=rfl
 tape:=rfl
 output:=rfl
 size:=by simp [Cx.more]
 keep:=fun b hb _=>Go.RowKit.Below.heap_alloc _ _ _ hb
 U:=fun j h => .inl h
 mu:=fun j hj=>by
  have:j≠id:=fun h=>by subst h; exact (hk.used j).1 hj hid
  left; exact ac _ _ _ this
 new:=fun j e he hr=>by
  simp only [Cx.more] at he
  by_cases hj:j=id
  ·subst hj; rw [ah] at he; injection he with he; subst he; exact .inl (Nat.le_refl _)
  ·rw [ac _ _ _ hj] at he; exact .inr ⟨j,e,he,hr,rfl⟩
 F:=fun b hb=>⟨fun h=>h.elim (fun h=>h) (fun h=>by omega),fun _ h => .inl h⟩
def MT (c:Cx) (sz:Nat) (l:List AV) (cells:Array Value):Prop :=
 l.length*sz≤cells.size∧∀(i:Nat) a,l[i]?=some a→∃v,Rv c a v∧v.cells.size=sz∧(a.isAgg=true∨v.oneCell'=true)∧(∀u∈v.cells.toList,u.oneCell'=true)∧∀(j:Nat) u,v.cells.toList[j]?=some u→cells[i*sz+j]?=some u
theorem jv {c:Cx} {f:Nat→BS} (hk:HOk c f) {id:Nat} (hid:f id = .fresh) {sz:Nat} {l:List AV} {cells:Array Value} (e:TypeId) (hl:MT c sz l cells) :
 HOk (c.more id (.cells cells e) ⟨true,c.w.heap.size,0,sz,cells.size⟩) (ar f id (.live sz l)):=by
 have hst:=Stp.more hk hid (.cells cells e) sz cells.size
 have hmu:∀j,j≠id→(c.more id (.cells cells e) ⟨true,c.w.heap.size,0,sz,cells.size⟩).mu j=c.mu j:=fun j hj=>ac _ _ _ hj
 have hmu0:(c.more id (.cells cells e) ⟨true,c.w.heap.size,0,sz,cells.size⟩).mu id=some ⟨true,c.w.heap.size,0,sz,cells.size⟩:=ah _ _ _
 constructor
 ·intro j
  by_cases hj:j=id
  ·subst hj; simp [Cx.more]
  ·rw [ac _ _ _ hj,←hk.used j]; simp [Cx.more,hj]
 ·intro j h
  by_cases hj:j=id
  ·subst hj; rw [ah] at h; simp at h
  ·rw [ac _ _ _ hj] at h; rw [hmu j hj]; exact hk.none j h
 ·intro j s m h
  by_cases hj:j=id
  ·subst hj
   rw [ah] at h
   injection h with h1 h2; subst h1; subst h2
   refine ⟨_,hmu0,rfl,by simp,fun _=>⟨Re.of_get fun i a hi=>?_,by simpa using hl.1,cells,e,jN c.w _,rfl⟩⟩
   obtain ⟨v,g1,g2,g3,g4,g5⟩:=hl.2 i a hi
   refine ⟨v,g1.keep hst hk.shut,g2,g3,g4,fun j u hu=>?_⟩
   have:=g5 j u hu
   simp only [Cx.more,Nat.zero_add,World.cell?_alloc_new,this]
  ·rw [ac _ _ _ hj] at h
   obtain ⟨en,he,h1,h2,h3⟩:=hk.live j s m h
   refine ⟨en,by rw [hmu j hj]; exact he,h1,h2,fun hr=>?_⟩
   obtain ⟨hre,htot,cs,ty,hh,hsz⟩:=h3 hr
   have hlt:=hk.lt he hr
   have hb:(c.more id (.cells cells e) ⟨true,c.w.heap.size,0,sz,cells.size⟩).w.heap[en.block]?=c.w.heap[en.block]?:=Go.RowKit.Below.heap_alloc _ _ _ hlt
   refine ⟨Re.of_get fun i a hi=>?_,htot,cs,ty,by rw [hb]; exact hh,hsz⟩
   obtain ⟨v,g1,g2,g3,g4,g5⟩:=hre.get i a hi
   exact ⟨v,g1.keep hst hk.shut,g2,g3,g4,g5.block hb⟩
 ·intro j o t h
  by_cases hj:j=id
  ·subst hj; rw [ah] at h; cases h
  ·rw [ac _ _ _ hj] at h
   obtain ⟨en,oo,he,h1,h2,h3,hS,h4,h5,h6⟩:=hk.obj j o t h
   have hb:(c.more id (.cells cells e) ⟨true,c.w.heap.size,0,sz,cells.size⟩).w.heap[en.block]?=c.w.heap[en.block]?:=Go.RowKit.Below.heap_alloc _ _ _ (hk.lt he h1)
   exact ⟨en,oo,by rw [hmu j hj]; exact he,h1,h2,h3,hS,by rw [hb]; exact h4,fun k=>(h5 k).keep hst hk.shut,h6⟩
 ·intro i j ei ej hi hj hri hrj hb
  by_cases h1:i=id<;>by_cases h2:j=id
  ·rw [h1,h2]
  ·subst h1
   rw [hmu0] at hi; injection hi with hi; subst hi
   rw [hmu j h2] at hj
   have:=hk.lt hj hrj
   simp at hb; omega
  ·subst h2
   rw [hmu0] at hj; injection hj with hj; subst hj
   rw [hmu i h1] at hi
   have:=hk.lt hi hri
   simp at hb; omega
  ·rw [hmu i h1] at hi; rw [hmu j h2] at hj
   exact hk.inj i j ei ej hi hj hri hrj hb
 ·intro j en he hr
  by_cases hj:j=id
  ·subst hj; rw [hmu0] at he; injection he with he; subst he; exact .inr rfl
  ·rw [hmu j hj] at he; exact .inl (hk.shut j en he hr)
theorem oM (c:Cx) (id sz:Nat) (o:Obj) (total:Nat):Rv (c.more id o ⟨true,c.w.heap.size,0,sz,total⟩) (.ptr id 0 0) (.pointer (some ⟨c.w.heap.size,0,none⟩)):=by
 simp only [Rv]
 refine ⟨.inr rfl,_,_,rfl,fun e he=>?_⟩
 rw [show (c.more id o ⟨true,c.w.heap.size,0,sz,total⟩).mu id=some ⟨true,c.w.heap.size,0,sz,total⟩ from ah _ _ _] at he
 injection he with he; subst he; simp
theorem kU (c:Cx) (id sz:Nat) (o:Obj) (len cap total:Nat) (h1:len≤cap) (h2:cap*sz≤total):Rv (c.more id o ⟨true,c.w.heap.size,0,sz,total⟩) (.own sz id 0 len) (.slice (some ⟨c.w.heap.size,0,none⟩) len cap):=by
 have hm:(c.more id o ⟨true,c.w.heap.size,0,sz,total⟩).mu id=some ⟨true,c.w.heap.size,0,sz,total⟩:=ah _ _ _
 simp only [Rv]
 refine ⟨.inr rfl,fun e he=>?_,_,cap,rfl,h1,.inr ⟨_,_,rfl,fun e he=>?_⟩⟩
 ·rw [hm] at he; injection he with he; subst he; rfl
 ·rw [hm] at he; injection he with he; subst he; simpa using h2
theorem yP {P:Program} {c:Cx} {t:TypeId} {ti:TI} {z:Value} {i:TypeInfo} (ht:ak P t=some ti) (hi:P.info? t=some i) (hz:i.zero=some z) :
 Rv c ti.zval z∧z.cells.size=ti.size∧(ti.zval.isAgg=true∨z.oneCell'=true)∧∀u∈z.cells.toList,u.oneCell'=true:=by
 obtain ⟨d,i',z',hd,hi',hz',hsz,_,hk,hz0,hzs,hz1,hag,_⟩:=ao ht
 rw [hi] at hi'; injection hi' with hi'; subst hi'
 rw [hz] at hz'; injection hz' with hz'; subst hz'
 refine ⟨?_,by rw [hzs,hsz],?_,hz1⟩
 ·unfold TI.zval dD
  rw [hk,←hag]
  cases z with
  | agg cs =>
   simp only [yU,if_true,Rv]
   refine ⟨cs,rfl,hz1,?_⟩
   rw [hz0]
   refine Rl.of_get (by simp [Value.cells]) fun i a u h1 h2=>?_
   rw [List.getElem?_map] at h1
   simp only [Value.cells] at h1
   rw [h2] at h1
   simp only [Option.map_some,Option.some.injEq] at h1
   subst h1; exact no c u
  | _ =>
   simp only [yU,Bool.false_eq_true,if_false]
   rw [hz0]
   simp only [Value.cells,List.map_cons,List.map_nil,List.headD_cons]
   exact no c _
 ·unfold TI.zval dD
  rw [hk,←hag]
  cases z with
  | agg cs=>left; simp [yU,AV.isAgg]
  | _=>right; exact hz1 _ (by simp [Value.cells])
def MS (P:Program) (c:Cx) (f:Nat→BS) (id:Nat) (s:Sem Next) (v:AV) (b:BS):Prop :=
 ∃r c',s.run P c.w = .ok (.value r) c'.w∧Rv c' v r∧HOk c' (ar f id b)∧Stp c c'
theorem yf {c:Cx} {a:AV} {v:Value} {sz:Nat} (h1:Rv c a v) (h2:v.cells.size=sz) (h3:a.isAgg=true∨v.oneCell'=true) (h4:∀u∈v.cells.toList,u.oneCell'=true):MT c sz [a] v.cells:=by
 refine ⟨by simp [h2],fun i x hi=>?_⟩
 cases i with
 | zero=>simp at hi; subst hi; exact ⟨v,h1,h2,h3,h4,fun j u hu=>by simpa using hu⟩
 | succ i=>simp at hi
theorem pf {c:Cx} {a:AV} {v:Value} {n:Nat} (hs:a.shaped n=true) (h:Rv c a v):a.isAgg=true∨v.oneCell'=true:=by
 cases a with
 | agg cs=>exact .inl rfl
 | any=>simp [AV.shaped,AV.sca] at hs
 | tup=>simp [AV.shaped,AV.sca] at hs
 | _ =>
  simp only [AV.shaped,Bool.and_eq_true,beq_iff_eq] at hs
  exact .inr (qY hs.1 h).1
theorem iZ {vs:List Value} {sz:Nat} (h:∀v∈vs,v.cells.size=sz) (i j:Nat) (v u:Value) (hi:vs[i]?=some v) (hj:v.cells.toList[j]?=some u):(vs.flatMap (·.cells.toList))[i*sz+j]?=some u:=by
 induction vs generalizing i with
 | nil=>simp at hi
 | cons w vs ih =>
  have hw:w.cells.toList.length=sz:=by simpa using h w (by simp)
  cases i with
  | zero =>
   simp at hi; subst hi
   have:j<w.cells.toList.length:=by
    rcases Nat.lt_or_ge j w.cells.toList.length with hlt|hge
    ·exact hlt
    ·rw [List.getElem?_eq_none hge] at hj; cases hj
   simp only [List.flatMap_cons,Nat.zero_mul,Nat.zero_add]
   rw [List.getElem?_append_left this]; exact hj
  | succ i =>
   simp only [List.flatMap_cons]
   rw [List.getElem?_append_right (by rw [hw,Nat.succ_mul]; omega),hw]
   have:=ih (fun v hv=>h v (by simp [hv])) i (by simpa using hi)
   rwa [show (i+1)*sz+j-sz=i*sz+j by rw [Nat.succ_mul]; omega]
theorem cI {vs:List Value} {sz:Nat} (h:∀v∈vs,v.cells.size=sz):(vs.flatMap (·.cells.toList)).length=vs.length*sz:=by
 induction vs with
 | nil=>simp
 | cons w vs ih =>
  have hw:w.cells.toList.length=sz:=by simpa using h w (by simp)
  simp only [List.flatMap_cons,List.length_append,hw,List.length_cons,Nat.succ_mul]
  rw [ih fun v hv=>h v (by simp [hv])]; omega
theorem od (sz:Nat):∀(vs:List Value) (k:Nat) (cs:Array Value),(∀v∈vs,v.cells.size=sz)→(k+vs.length)*sz≤cs.size →
 Instr.fill (fun i=>some (i*sz,sz)) cs ((List.range' k vs.length).zip vs)=some (cs.toList.take (k*sz)++vs.flatMap (·.cells.toList)++cs.toList.drop ((k+vs.length)*sz)).toArray
 | [],k,cs,_,_=>by simp [Instr.fill]
 | v::vs,k,cs,h,hl=>by
  have hv:=h v (by simp)
  have hle:k*sz+sz≤cs.size:=by
   refine Nat.le_trans ?_ hl
   rw [show k*sz+sz=(k+1)*sz by rw [Nat.succ_mul]]
   exact Nat.mul_le_mul_right _ (by simp)
  simp only [List.length_cons,List.range'_succ,List.zip_cons_cons,Instr.fill]
  rw [if_neg (by simp [hv]; omega)]
  have hfold:(v.cells.zipIdx.foldl (fun cs (c,j)=>cs.setIfInBounds (k*sz+j) c) cs)=(cs.toList.take (k*sz)++v.cells.toList++cs.toList.drop (k*sz+v.cells.size)).toArray:=by
   have:=lV (k*sz) v.cells.toList 0 cs (by simpa [hv] using hle)
   rw [←Array.foldl_toList,Array.toList_zipIdx]
   simpa using this
  rw [hfold]
  have hlen:(cs.toList.take (k*sz)++v.cells.toList++cs.toList.drop (k*sz+v.cells.size)).length=cs.size:=by
   simp [hv]; omega
  rw [od sz vs (k+1) _ (fun v hv=>h v (by simp [hv])) (by
   simp only [List.size_toArray,hlen]
   simp only [List.length_cons] at hl
   rwa [show k+1+vs.length=k+(vs.length+1) by omega])]
  congr 1
  congr 1
  simp only [List.flatMap_cons]
  have h1:(k+1)*sz=k*sz+v.cells.toList.length:=by rw [Nat.succ_mul]; simp [hv]
  have h2:(k+1+vs.length)*sz=k*sz+v.cells.toList.length+vs.length*sz:=by rw [Nat.add_mul,h1]
  have hk:(cs.toList.take (k*sz)).length=k*sz:=by simp; omega
  have ht:(cs.toList.take (k*sz)++v.cells.toList++cs.toList.drop (k*sz+v.cells.size)).take ((k+1)*sz)=cs.toList.take (k*sz)++v.cells.toList:=by
   rw [h1,←hk,←List.length_append,List.take_left']
   rw [hk]
  have hd:(cs.toList.take (k*sz)++v.cells.toList++cs.toList.drop (k*sz+v.cells.size)).drop ((k+1+vs.length)*sz)=cs.toList.drop ((k+(vs.length+1))*sz):=by
   rw [h2,←List.drop_drop]
   have:(cs.toList.take (k*sz)++v.cells.toList++cs.toList.drop (k*sz+v.cells.size)).drop (k*sz+v.cells.toList.length)=cs.toList.drop (k*sz+v.cells.size):=by
    rw [List.drop_left']
    rw [List.length_append,hk]
   rw [this,List.drop_drop]
   congr 1
   rw [show k+(vs.length+1)=k+1+vs.length by omega,h2]
   simp
  rw [ht,hd]
  simp [List.append_assoc]
theorem nk {P:Program} {t e:TypeId} {ie:TypeInfo} {z:Value} (hd:P.underlying t=some (.slice e)) (hi:P.info? e=some ie) (hz:ie.zero=some z) (hzs:z.cells.size=ie.size)
 (vs:List Value) (h:∀v∈vs,v.cells.size=ie.size) (hsmall:vs.length*ie.size≤16777216) (w:World) :
 (Instr.buildSlice t vs.length ((List.range vs.length).zip vs).toArray).run P w = .ok (.slice (some ⟨w.heap.size,0,none⟩) vs.length vs.length) (w.alloc (.cells (vs.flatMap (·.cells.toList)).toArray e)):=by
 have hf:=fun cs hcs=>od ie.size vs 0 cs h hcs
 simp only [Nat.zero_add,Nat.zero_mul,List.take_zero,List.nil_append,←List.range_eq_range'] at hf
 have hn:¬(vs.length*ie.size > 2 ^ 24):=by omega
 have key:∀zero:Array Value,(Instr.fill (fun i=>some (i*ie.size,ie.size)) ((Array.range (vs.length*ie.size)).map (zero[· % zero.size]!)) ((List.range vs.length).zip vs))=some (vs.flatMap (·.cells.toList)).toArray:=by
  intro zero
  rw [hf _ (by simp)]
  rw [List.drop_eq_nil_of_le (by simp)]
  simp
 simp only [Instr.buildSlice,Sem.run_bind,run_underlying hd,Result.andThen_ok,bo hi,hn,if_false]
 split
 ·rename_i h0
  simp only [Sem.run_pure,Result.andThen_ok,Sem.run_bind,key,newRow,run_newObj]
  rfl
 ·simp only [Sem.run_bind,zeroValue,typeInfo,run_program,Result.andThen_ok,hi,Sem.run_pure,hz,key,newRow,run_newObj]
  rfl
theorem rj {ρ:Operand→Value}:∀(parts:List (Nat×Operand)) (k:Nat),parts.map (·.1)=List.range' k parts.length→(parts.map fun p=>(p.1,ρ p.2))=(List.range' k parts.length).zip (parts.map fun p=>ρ p.2)
 | [],k,h=>by simp
 | p::parts,k,h=>by
  simp only [List.map_cons,List.length_cons,List.range'_succ,List.cons.injEq] at h ⊢
  obtain ⟨h1,h2⟩:=h
  rw [List.zip_cons_cons,rj parts (k+1) h2,←h1]
theorem zW {P:Program} {c:Cx} {f:Nat→BS} (hk:HOk c f) {id:Nat} (hid:f id = .fresh) {ρA:Operand→AV} {ρ:Operand→Value} (hr:∀x,Rv c (ρA x) (ρ x)) {s:Prop} {v:AV} {b:BS} {o:Oper}
 (h:pH P id ρA o.op=some (s,v,b)) (hs:s):MS P c f id (execOp ρ o) v b:=by
 obtain ⟨dst,op,ty,pos,after,guard⟩:=o
 simp only at h
 cases op<;>(try (simp only [pH] at h; cases h; done))
 case alloc t =>
  simp only [pH] at h
  cases ht:ak P t with
  | none=>rw [ht] at h; cases h
  | some ti =>
   rw [ht] at h
   simp only [Option.map_some,Option.some.injEq,Prod.mk.injEq] at h
   obtain ⟨_,rfl,rfl⟩:=h
   obtain ⟨d,i,z,hd,hi,hz,_⟩:=ao ht
   obtain ⟨z1,z2,z3,z4⟩:=yP (c:=c) ht hi hz
   refine ⟨_,c.more id (.cells z.cells t) ⟨true,c.w.heap.size,0,ti.size,z.cells.size⟩,dk ?_,oM c id ti.size _ _,jv hk hid t (yf z1 z2 z3 z4),Stp.more hk hid _ _ _⟩
   simp only [Instr.alloc,Sem.run_bind,zeroValue,typeInfo,run_program,Result.andThen_ok,hi,Sem.run_pure,hz,newVar,newRow,run_newObj]
   rfl
 case box t x =>
  simp only [pH] at h
  cases ht:ak P t with
  | none=>rw [ht] at h; cases h
  | some ti =>
   rw [ht] at h
   simp only [Option.bind_some] at h
   split at h
   ·rename_i hsh
    simp only [Option.some.injEq,Prod.mk.injEq] at h
    obtain ⟨_,rfl,rfl⟩:=h
    have hx:=hr x
    obtain ⟨g1,g2,g3⟩:=ed hsh hx
    refine ⟨_,c.more id (.cells (ρ x).cells t) ⟨true,c.w.heap.size,0,ti.size,(ρ x).cells.size⟩,dk ?_,oM c id ti.size _ _,jv hk hid t (yf hx g1 (pf hsh hx) g2),Stp.more hk hid _ _ _⟩
    simp only [Instr.box,Sem.run_bind,newVar,newRow,run_newObj,Result.andThen_ok,Sem.run_pure]
    rfl
   ·cases h
 case buildSlice t len parts =>
  simp only [pH] at h
  split at h
  ·rename_i ti ht
   split at h
   ·rename_i e hke
    split at h
    ·rename_i te hte
     split at h
     ·rename_i hc
      obtain ⟨hc1,hc2,hc3⟩:=hc
      simp only [Option.some.injEq,Prod.mk.injEq] at h
      obtain ⟨_,rfl,rfl⟩:=h
      obtain ⟨d,i,z,hd,hi,hz,_,_,hk0,_⟩:=ao ht
      rw [hk0] at hke; have:=cG hke; subst this
      obtain ⟨d',ie,ze,hd',hie,hze,hsz,_,_,_,hzs,_⟩:=ao hte
      have hlen:parts.toList.length=len:=by have:=congrArg List.length hc1; simpa using this
      subst hlen
      have hmap:(parts.map fun (i,x)=>(i,ρ x))=((List.range (parts.toList.map fun p=>ρ p.2).length).zip (parts.toList.map fun p=>ρ p.2)).toArray:=by
       have:=rj (ρ:=ρ) parts.toList 0 (by rw [hc1,List.range_eq_range'])
       apply Array.ext'
       simp only [Array.toList_map,List.length_map]
       rw [List.range_eq_range',←this]
      have hall:∀u∈(parts.toList.map fun p=>ρ p.2),u.cells.size=ie.size:=by
       intro u hu
       rw [List.mem_map] at hu
       obtain ⟨p,hp,rfl⟩:=hu
       rw [←hsz]
       exact (ed ((List.all_eq_true.1 hc2) p hp) (hr p.2)).1
      have hrun:=nk hd hie hze hzs (parts.toList.map fun p=>ρ p.2) hall (by simpa [hsz] using hc3) c.w
      rw [←hmap] at hrun
      simp only [List.length_map] at hrun
      have hfl:=cI hall
      rw [List.length_map,←hsz] at hfl
      have hsize:((parts.toList.map fun p=>ρ p.2).flatMap (·.cells.toList)).toArray.size=parts.toList.length*te.size:=by simpa using hfl
      refine ⟨_,c.more id (.cells ((parts.toList.map fun p=>ρ p.2).flatMap (·.cells.toList)).toArray e) ⟨true,c.w.heap.size,0,te.size,_⟩,dk hrun,kU c id te.size _ _ _ _ (Nat.le_refl _) (Nat.le_of_eq hsize.symm),jv hk hid e ⟨by rw [hsize]; simp,fun i a hi=>?_⟩,Stp.more hk hid _ _ _⟩
      rw [List.getElem?_map] at hi
      cases hp:parts.toList[i]? with
      | none=>rw [hp] at hi; cases hi
      | some p =>
       rw [hp] at hi
       simp only [Option.map_some,Option.some.injEq] at hi
       subst hi
       have hsh:=(List.all_eq_true.1 hc2) p (List.mem_of_getElem? hp)
       obtain ⟨g1,g2,g3⟩:=ed hsh (hr p.2)
       refine ⟨ρ p.2,hr p.2,g1,pf hsh (hr p.2),g2,fun j u hu=>?_⟩
       have:=iZ hall i j (ρ p.2) u (by rw [List.getElem?_map,hp]; rfl) hu
       rw [←hsz] at this
       simpa using this
     ·cases h
    ·cases h
   ·cases h
  ·cases h
 case makeSlice t l cp =>
  simp only [pH] at h
  split at h
  ·rename_i ti k n k' m ht hla hca
   split at h
   ·rename_i e hke
    split at h
    ·rename_i te hte
     simp only [Option.some.injEq,Prod.mk.injEq] at h
     obtain ⟨rfl,rfl,rfl⟩:=h
     obtain ⟨hn0,hnm,hb,h63⟩:=hs
     have hl:=hr l; have hc:=hr cp
     rw [hla] at hl; rw [hca] at hc; simp only [Rv] at hl hc
     obtain ⟨d,i,z,hd,hi,hz,_,_,hk0,_⟩:=ao ht
     rw [hk0] at hke; have:=cG hke; subst this
     obtain ⟨d',ie,ze,hd',hie,hze,hsz,hby,_,_,hzs,_⟩:=ao hte
     obtain ⟨z1,z2,z3,z4⟩:=yP (c:=c) hte hie hze
     have hrun:=run_make (P:=P) c.w t e ie ze hd hie hze k k' n m hn0 hnm (by rw [←hby]; exact hb) h63
     have hmsz:(madeCells ze.cells (m.toNat*ie.size)).size=m.toNat*te.size:=by rw [size_madeCells,hsz]
     refine ⟨_,c.more id (.cells (madeCells ze.cells (m.toNat*ie.size)) e) ⟨true,c.w.heap.size,0,te.size,_⟩,dk (by rw [hl,hc]; exact hrun),kU c id te.size _ _ _ _ (by omega) (Nat.le_of_eq hmsz.symm),
      jv hk hid e ⟨by rw [hmsz,List.length_replicate]; exact Nat.mul_le_mul_right _ (by omega),fun i a hi=>?_⟩,Stp.more hk hid _ _ _⟩
     rw [List.getElem?_replicate] at hi
     split at hi
     ·rename_i hlt
      injection hi with hi; subst hi
      refine ⟨ze,z1,z2,z3,z4,fun j u hu=>?_⟩
      have hj:j<te.size:=by
       rw [←z2]
       rcases Nat.lt_or_ge j ze.cells.size with h'|h'
       ·exact h'
       ·rw [List.getElem?_eq_none (by simpa using h')] at hu; cases hu
      have hlt2:i*te.size+j<m.toNat*ie.size:=by
       rw [←hsz]
       have:(i+1)*te.size≤m.toNat*te.size:=Nat.mul_le_mul_right _ (by omega)
       rw [Nat.succ_mul] at this; omega
      simp only [madeCells,Array.getElem?_map,Array.getElem?_range,hlt2,if_true,Option.map_some]
      have hmod:(i*te.size+j)%ze.cells.size=j:=by
       rw [z2,Nat.add_comm,Nat.add_mul_mod_self_right,Nat.mod_eq_of_lt hj]
      rw [hmod]
      have hu':ze.cells[j]?=some u:=by simpa using hu
      rw [getElem!_def,hu']
     ·cases hi
    ·cases h
   ·cases h
  ·cases h
def Cx.wrote (c:Cx) (g:Nat) (cs:Array Value):Cx:={ c with w:=c.w.setRow g cs }
theorem Stp.wrote {c:Cx} {f:Nat→BS} (hk:HOk c f) {id:Nat} {e:Ent} (he:c.mu id=some e) (hr:e.real=true) (cs:Array Value):Stp c (c.wrote e.block cs) where
 os:=rfl
 tape:=rfl
 output:=rfl
 size:=by simp [Cx.wrote]
 keep:=fun b hb hn=>setRow_other _ _ _ _ (fun h=>hn id e he hr h.symm)
 U:=fun _ h=>h
 mu:=fun _ _ => .inl rfl
 new:=fun j e' he' hr' => .inr ⟨j,e',he',hr',rfl⟩
 F:=fun _ _=>⟨fun h=>h,fun _ h=>h⟩
theorem lB {c:Cx} {f:Nat→BS} (hk:HOk c f) {id sz:Nat} {l:List AV} (hf:f id = .live sz l) {e:Ent} (he:c.mu id=some e) (hr:e.real=true) {old cs:Array Value} {ty:TypeId}
 (hold:c.w.heap[e.block]?=some (.cells old ty (0,0))) (hsz:cs.size=old.size) {l':List AV} (hlen:e.base+l'.length*sz≤e.total)
 (hel:∀(i:Nat) a,l'[i]?=some a→∃v,Rv c a v∧v.cells.size=sz∧(a.isAgg=true∨v.oneCell'=true)∧(∀u∈v.cells.toList,u.oneCell'=true)∧∀(j:Nat) u,v.cells.toList[j]?=some u→cs[e.base+i*sz+j]?=some u) :
 HOk (c.wrote e.block cs) (ar f id (.live sz l')):=by
 have hst:=Stp.wrote hk he hr cs
 have hnew:=setRow_heap c.w e.block old cs ty (0,0) hold
 constructor
 ·intro j
  by_cases hj:j=id
  ·subst hj; simp [Cx.wrote,(hk.used j),hf]
  ·rw [ac _ _ _ hj]; exact hk.used j
 ·intro j h
  by_cases hj:j=id
  ·subst hj; rw [ah] at h; simp at h
  ·rw [ac _ _ _ hj] at h; exact hk.none j h
 ·intro j s m h
  by_cases hj:j=id
  ·subst hj
   rw [ah] at h
   injection h with h1 h2; subst h1; subst h2
   obtain ⟨e',he',h1,h2,h3⟩:=hk.live j sz l hf
   rw [he] at he'; injection he' with he'; subst he'
   obtain ⟨_,htot,cs0,ty0,hh,hs0⟩:=h3 hr
   rw [hold] at hh; injection hh with hh; injection hh with hh1 hh2; subst hh1; subst hh2
   refine ⟨e,he,h1,by simp [hr],fun _=>⟨Re.of_get fun i a hi=>?_,hlen,cs,ty,hnew,by rw [hsz]; exact hs0⟩⟩
   obtain ⟨v,g1,g2,g3,g4,g5⟩:=hel i a hi
   refine ⟨v,g1.keep hst hk.shut,g2,g3,g4,fun j u hu=>?_⟩
   rw [show (c.wrote e.block cs).w=c.w.setRow e.block cs from rfl,cell_setRow_same c.w e.block _ old cs ty (0,0) hold]
   exact g5 j u hu
  ·rw [ac _ _ _ hj] at h
   obtain ⟨en,hen,h1,h2,h3⟩:=hk.live j s m h
   refine ⟨en,hen,h1,h2,fun hrn=>?_⟩
   obtain ⟨hre,htot,cs0,ty0,hh,hs0⟩:=h3 hrn
   have hne:en.block≠e.block:=fun hb=>hj (hk.inj j id en e hen he hrn hr hb)
   have hb:(c.wrote e.block cs).w.heap[en.block]?=c.w.heap[en.block]?:=setRow_other _ _ _ _ hne
   refine ⟨Re.of_get fun i a hi=>?_,htot,cs0,ty0,by rw [hb]; exact hh,hs0⟩
   obtain ⟨v,g1,g2,g3,g4,g5⟩:=hre.get i a hi
   exact ⟨v,g1.keep hst hk.shut,g2,g3,g4,g5.block hb⟩
 ·intro j o t h
  by_cases hj:j=id
  ·subst hj; rw [ah] at h; cases h
  ·rw [ac _ _ _ hj] at h
   obtain ⟨en,oo,hen,h1,h2,h3,hS,h4,h5,h6⟩:=hk.obj j o t h
   have hne:en.block≠e.block:=fun hb=>hj (hk.inj j id en e hen he h1 hr hb)
   have hb:(c.wrote e.block cs).w.heap[en.block]?=c.w.heap[en.block]?:=setRow_other _ _ _ _ hne
   exact ⟨en,oo,hen,h1,h2,h3,hS,by rw [hb]; exact h4,fun k=>(h5 k).keep hst hk.shut,h6⟩
 ·exact hk.inj
 ·exact hk.shut
theorem uV {P:Program} {c:Cx} {f:Nat→BS} (hk:HOk c f) {t:TypeId} {ti:TI} (ht:ak P t=some ti) {id idx off sz:Nat} {l:List AV} (hf:f id = .live sz l) {a x:AV} {va vx:Value} (ha:Rv c (.ptr id idx off) va) (hx:Rv c x vx)
 (hsh:x.shaped ti.size=true) (hidx:idx<l.length) (hoff:off+ti.size≤(l.getD idx .any).cells.length) (hpos:0<ti.size) :
 ∃c',(Instr.storeAt t va vx).run P c.w = .ok () c'.w∧HOk c' (ar f id (.live sz (l.set idx ((l.getD idx .any).lay off x.cells))))∧Stp c c':=by
 obtain ⟨d,i,z,hd,hi,_,hsz,_⟩:=ao ht
 obtain ⟨e,he,hesz,hnr,hreal⟩:=hk.live id sz l hf
 simp only [Rv] at ha
 obtain ⟨hU,b,o,rfl,hall⟩:=ha
 obtain ⟨hr,rfl,rfl⟩:=hall e he
 obtain ⟨hre,htot,old,ty,hold,hosz⟩:=hreal hr
 obtain ⟨g1,g2,g3⟩:=ed hsh hx
 have hxl:x.cells.length=ti.size:=xi hsh
 obtain ⟨v0,q1,q2,q3,q4,q5⟩:=hre.get idx _ (List.getElem?_eq_getElem hidx)
 have hget:l.getD idx .any=l[idx]:=by rw [List.getD_eq_getElem?_getD,List.getElem?_eq_getElem hidx]; rfl
 rw [hget] at hoff ⊢
 have hrl:=nQ q1 q3
 have hlen0:v0.cells.toList.length=l[idx].cells.length:=hrl.length
 have hcl:l[idx].cells.length=sz:=by rw [←hlen0]; simpa using q2
 have hin:e.base+idx*sz+sz≤old.size:=by
  rw [hosz]
  refine Nat.le_trans ?_ htot
  have:(idx+1)*sz≤l.length*sz:=Nat.mul_le_mul_right _ hidx
  rw [Nat.succ_mul] at this; omega
 let pos:=e.base+idx*e.sz+off
 have hposn:pos=e.base+idx*sz+off:=by simp only [pos,hesz]
 let cs:=(old.toList.take pos++vx.cells.toList++old.toList.drop (pos+vx.cells.toList.length)).toArray
 have hfit:pos+0+vx.cells.toList.length≤old.size:=by simp [g1]; omega
 have hrun:=run_storeCells_at P e.block pos ty vx.cells.toList 0 old c.w hold hfit g2
 simp only [Nat.add_zero] at hrun
 have hcs:cs.size=old.size:=by simp [cs,g1]; omega
 have hcget:∀k,cs[k]?=if k<pos then old[k]? else if k<pos+ti.size then vx.cells.toList[k-pos]? else old[k]?:=by
  intro k
  have hvl:vx.cells.toList.length=ti.size:=by simpa using g1
  have htl:(old.toList.take pos).length=pos:=by simp; omega
  simp only [cs,List.getElem?_toArray]
  split
  ·rename_i hk
   rw [List.append_assoc,List.getElem?_append_left (by omega),List.getElem?_take,if_pos hk]; simp
  ·rename_i hk
   split
   ·rename_i hk2
    rw [List.getElem?_append_left (by rw [List.length_append,htl,hvl]; omega),List.getElem?_append_right (by omega),htl]
   ·rename_i hk2
    rw [List.getElem?_append_right (by rw [List.length_append,htl,hvl]; omega),List.getElem?_drop,List.length_append,htl,hvl]
    rw [show pos+ti.size+(k-(pos+ti.size))=k by omega]; simp
 refine ⟨c.wrote e.block cs,?_,lB hk hf he hr hold hcs (by simpa using htot) fun i a hi=>?_,Stp.wrote hk he hr cs⟩
 ·simp only [Instr.storeAt,Sem.run_bind,Instr.sureAddr,Sem.run_pure,Result.andThen_ok,storeVar,bo hi]
  rw [if_neg (by rw [g1,hsz]; simp)]
  exact hrun
 ·rw [List.getElem?_set] at hi
  have hcold:∀k u,c.w.cell? ⟨e.block,k,none⟩=some u→old[k]?=some u:=by
   intro k u hu
   unfold World.cell? at hu
   simp only [hold] at hu
   simpa using hu
  split at hi
  ·rename_i hii
   subst hii
   injection hi with hi
   by_cases hag:l[idx].isAgg=true
   ·
    obtain ⟨cs0,hcs0⟩:∃cs0,l[idx] = .agg cs0:=by cases hh:l[idx]<;>simp [AV.isAgg,hh] at hag; exact ⟨_,rfl⟩
    rw [hcs0] at q1 hi hcl hoff
    obtain ⟨vs0,rfl,r1,r2⟩:=lH q1
    simp only [AV.lay] at hi
    subst hi
    simp only [AV.cells] at hcl hoff
    refine ⟨.agg (vs0.toList.take off++vx.cells.toList++vs0.toList.drop (off+ti.size)).toArray,?_,?_,.inl rfl,?_,?_⟩
    ·simp only [Rv]
     refine ⟨_,rfl,?_,?_⟩
     ·intro u hu
      simp only [List.mem_append] at hu
      rcases hu with (hu|hu)|hu
      ·exact r1 u (List.mem_of_mem_take hu)
      ·exact g2 u hu
      ·exact r1 u (List.mem_of_mem_drop hu)
     ·rw [hxl]; exact ((r2.take off).append g3).append (r2.drop _)
    ·have hv0:vs0.size=sz:=q2
     have hvl:vx.cells.toList.length=ti.size:=by simpa using g1
     show (vs0.toList.take off++vx.cells.toList++vs0.toList.drop (off+ti.size)).length=sz
     simp only [List.length_append,List.length_take,List.length_drop,hvl,Array.length_toList]
     omega
    ·intro u hu
     change u∈(vs0.toList.take off++vx.cells.toList++vs0.toList.drop (off+ti.size)) at hu
     simp only [List.mem_append] at hu
     rcases hu with (hu|hu)|hu
     ·exact r1 u (List.mem_of_mem_take hu)
     ·exact g2 u hu
     ·exact r1 u (List.mem_of_mem_drop hu)
    ·intro j u hu
     change (vs0.toList.take off++vx.cells.toList++vs0.toList.drop (off+ti.size))[j]?=some u at hu
     have q2:vs0.size=sz:=q2
     have q5:aD c.w e.block (e.base+idx*sz) vs0.toList:=q5
     have hvl:vx.cells.toList.length=ti.size:=by simpa using g1
     have htl:(vs0.toList.take off).length=off:=by simp; omega
     have hj:j<sz:=by
      rcases Nat.lt_or_ge j sz with h'|h'
      ·exact h'
      ·rw [List.getElem?_eq_none (by simp only [List.length_append,List.length_take,List.length_drop,hvl,Array.length_toList]; omega)] at hu; cases hu
     rw [hcget]
     by_cases c1:j<off
     ·rw [if_pos (by omega)]
      rw [List.append_assoc,List.getElem?_append_left (by omega),List.getElem?_take,if_pos c1] at hu
      have:=q5 j u hu
      exact hcold _ _ this
     ·rw [if_neg (by omega)]
      by_cases c2:j<off+ti.size
      ·rw [if_pos (by omega)]
       rw [List.getElem?_append_left (by rw [List.length_append,htl,hvl]; omega),List.getElem?_append_right (by omega),htl] at hu
       rw [show e.base+idx*sz+j-pos=j-off by omega]; exact hu
      ·rw [if_neg (by omega)]
       rw [List.getElem?_append_right (by rw [List.length_append,htl,hvl]; omega),List.getElem?_drop,List.length_append,htl,hvl] at hu
       have:=q5 j u (by rwa [show off+ti.size+(j-(off+ti.size))=j by omega] at hu)
       exact hcold _ _ this
   ·
    have hag':l[idx].isAgg=false:=by simpa using hag
    have hc1:l[idx].cells.length=1:=by cases hh:l[idx]<;>simp [AV.cells,AV.isAgg,hh] at hag' ⊢
    have hlay:l[idx].lay off x.cells=x.cells.headD .any:=by cases hh:l[idx]<;>simp [AV.lay,AV.isAgg,hh] at hag' ⊢
    have hsz1:sz=1:=by omega
    have hoff0:off=0:=by omega
    have hti1:ti.size=1:=by omega
    have h0:0<x.cells.length:=by omega
    obtain ⟨u0,hu0,hr0⟩:=g3.get 0 _ (List.getElem?_eq_getElem h0)
    have hu1:u0.oneCell'=true:=g2 u0 (List.mem_of_getElem? hu0)
    have hhd:x.cells.headD .any=x.cells[0]:=by rw [List.headD_eq_head?_getD,List.head?_eq_getElem?,List.getElem?_eq_getElem h0]; rfl
    rw [hlay,hhd] at hi
    subst hi
    have hcell:=qI hu1
    refine ⟨u0,hr0,by rw [hcell,hsz1]; rfl,.inr hu1,by rw [hcell]; simpa using hu1,fun j u hu=>?_⟩
    rw [hcell] at hu
    have hj:j=0:=by
     rcases Nat.eq_zero_or_pos j with h'|h'
     ·exact h'
     ·rw [List.getElem?_eq_none (by simp; omega)] at hu; cases hu
    subst hj
    simp only [List.getElem?_cons_zero,Option.some.injEq] at hu
    subst hu
    rw [hcget,if_neg (by omega),if_pos (by omega)]
    rw [show e.base+idx*sz+0-pos=0 by omega]
    exact hu0
  ·rename_i hii
   obtain ⟨v,w1,w2,w3,w4,w5⟩:=hre.get i a hi
   refine ⟨v,w1,w2,w3,w4,fun j u hu=>?_⟩
   have hj:j<sz:=by
    rw [←w2]
    rcases Nat.lt_or_ge j v.cells.size with h'|h'
    ·exact h'
    ·rw [List.getElem?_eq_none (by simpa using h')] at hu; cases hu
   have hcc:=hcold _ _ (w5 j u hu)
   rw [hcget]
   have hdis:e.base+i*sz+j<pos∨pos+ti.size≤e.base+i*sz+j:=by
    rcases Nat.lt_or_gt_of_ne (fun h=>hii h.symm:i≠idx) with h'|h'
    ·left
     have:(i+1)*sz≤idx*sz:=Nat.mul_le_mul_right _ h'
     rw [Nat.succ_mul] at this; omega
    ·right
     have:(idx+1)*sz≤i*sz:=Nat.mul_le_mul_right _ h'
     rw [Nat.succ_mul] at this; omega
   rcases hdis with h'|h'
   ·rw [if_pos h']; exact hcc
   ·rw [if_neg (by omega),if_neg (by omega)]; exact hcc
def lF (c:Cx) (sz:Nat) (l:List AV) (vs:List Value):Prop :=
 vs.length=l.length∧∀(i:Nat) a v,l[i]?=some a→vs[i]?=some v→Rv c a v∧v.cells.size=sz∧(a.isAgg=true∨v.oneCell'=true)∧∀u∈v.cells.toList,u.oneCell'=true
theorem lF.nil (c:Cx) (sz:Nat):lF c sz [] []:=⟨rfl,fun i a v h=>by simp at h⟩
theorem lF.append {c:Cx} {sz:Nat} {l m:List AV} {vs us:List Value} (h:lF c sz l vs) (k:lF c sz m us):lF c sz (l++m) (vs++us):=by
 refine ⟨by simp [h.1,k.1],fun i a v h1 h2=>?_⟩
 rcases Nat.lt_or_ge i l.length with hlt|hge
 ·rw [List.getElem?_append_left hlt] at h1
  rw [List.getElem?_append_left (by rw [h.1]; exact hlt)] at h2
  exact h.2 i a v h1 h2
 ·rw [List.getElem?_append_right hge] at h1
  rw [List.getElem?_append_right (by rw [h.1]; exact hge)] at h2
  rw [h.1] at h2
  exact k.2 _ a v h1 h2
theorem lF.size {c:Cx} {sz:Nat} {l:List AV} {vs:List Value} (h:lF c sz l vs):∀v∈vs,v.cells.size=sz:=by
 intro v hv
 obtain ⟨i,hi⟩:=List.getElem?_of_mem hv
 have hlt:i<l.length:=by
  rw [←h.1]
  rcases Nat.lt_or_ge i vs.length with h'|h'
  ·exact h'
  ·rw [List.getElem?_eq_none h'] at hi; cases hi
 exact (h.2 i _ v (List.getElem?_eq_getElem hlt) hi).2.1
theorem lF.keep {c c':Cx} (hs:Stp c c') (hsh:c.shut) {sz:Nat} {l:List AV} {vs:List Value} (h:lF c sz l vs):lF c' sz l vs :=
 ⟨h.1,fun i a v h1 h2=>let ⟨g1,g2⟩:=h.2 i a v h1 h2; ⟨g1.keep hs hsh,g2⟩⟩
theorem lF.ones {c:Cx} {sz:Nat} {l:List AV} {vs:List Value} (h:lF c sz l vs):∀u∈vs.flatMap (·.cells.toList),u.oneCell'=true:=by
 intro u hu
 rw [List.mem_flatMap] at hu
 obtain ⟨v,hv,hu⟩:=hu
 obtain ⟨i,hi⟩:=List.getElem?_of_mem hv
 have hlt:i<l.length:=by
  rw [←h.1]
  rcases Nat.lt_or_ge i vs.length with h'|h'
  ·exact h'
  ·rw [List.getElem?_eq_none h'] at hi; cases hi
 exact (h.2 i _ v (List.getElem?_eq_getElem hlt) hi).2.2.2 u hu
theorem lF.lie {c:Cx} {sz:Nat} {l:List AV} {vs:List Value} (h:lF c sz l vs) (cells:Array Value) (rest:List Value) (hc:cells.toList=vs.flatMap (·.cells.toList)++rest):MT c sz l cells:=by
 have hfl:=cI h.size
 refine ⟨?_,fun i a hi=>?_⟩
 ·have:=congrArg List.length hc
  simp only [Array.length_toList,List.length_append,hfl,h.1] at this
  omega
 ·have hlt:i<vs.length:=by
   rw [h.1]
   rcases Nat.lt_or_ge i l.length with h'|h'
   ·exact h'
   ·rw [List.getElem?_eq_none h'] at hi; cases hi
  obtain ⟨g1,g2,g3,g4⟩:=h.2 i a _ hi (List.getElem?_eq_getElem hlt)
  refine ⟨vs[i],g1,g2,g3,g4,fun j u hu=>?_⟩
  have:=iZ h.size i j vs[i] u (List.getElem?_eq_getElem hlt) hu
  rw [←Array.getElem?_toList,hc,List.getElem?_append_left]
  ·exact this
  ·rcases Nat.lt_or_ge (i*sz+j) (vs.flatMap (·.cells.toList)).length with h'|h'
   ·exact h'
   ·rw [List.getElem?_eq_none h'] at this; cases this
theorem Re.els {c:Cx} {sz:Nat}:∀ {l:List AV} {b o:Nat},Re c sz l b o→∃vs,lF c sz l vs∧aD c.w b o (vs.flatMap (·.cells.toList))
 | [],b,o,_=>⟨[],lF.nil c sz,fun i v h=>by simp at h⟩
 | a::l,b,o,h=>by
  simp only [Re] at h
  obtain ⟨⟨v,g1,g2,g3,g4,g5⟩,h⟩:=h
  obtain ⟨vs,e1,e2⟩:=h.els
  refine ⟨v::vs,⟨by simp [e1.1],fun i a' v' h1 h2=>?_⟩,?_⟩
  ·cases i with
   | zero=>simp at h1 h2; subst h1; subst h2; exact ⟨g1,g2,g3,g4⟩
   | succ i=>exact e1.2 i a' v' (by simpa using h1) (by simpa using h2)
  ·simp only [List.flatMap_cons]
   refine g5.append ?_
   rw [show v.cells.toList.length=sz by simpa using g2]
   exact e2
theorem fN {P:Program} {w:World} {size n n' cap:Nat} {a:Option Addr} {cells:List Value} (hl:cells.length=n*size) (h:cells=[]∨∃b o,a=some ⟨b,o,none⟩∧aD w b o cells) :
 (Builtin.firstCells size n (.slice a n' cap)).run P w = .ok cells.toArray w:=by
 rcases h with rfl|⟨b,o,rfl,h⟩
 ·have h0:n*size=0:=by simpa using hl.symm
  cases a with
  | none=>simp [Builtin.firstCells]
  | some a=>simp [Builtin.firstCells,h0,loadCells,loadCellsFrom]
 ·simp only [Builtin.firstCells]
  have:=j6 (P:=P) h (n*size) (by omega)
  rw [this,←hl,List.take_length]
theorem mD {P:Program} {t t' e e':TypeId} {ty:TypeId} {i:TypeInfo} {z:Value} (hd:P.underlying t=some (.slice e)) (hd':P.underlying t'=some (.slice e')) (hi:P.info? e=some i) (hz:i.zero=some z) {w:World}
 {base xa:Option Addr} {sLen sCap n xc:Nat} {olds news:List Value} (ho:olds.length=sLen*i.size) (ho2:olds=[]∨∃b o,base=some ⟨b,o,none⟩∧aD w b o olds)
 (hn:news.length=n*i.size) (hn2:news=[]∨∃b o,xa=some ⟨b,o,none⟩∧aD w b o news) (hg:sCap<sLen+n) (hfit:(sLen+n)*i.bytes≤140737488355328) (h63:sLen+n≤9223372036854775807) :
 (Builtin.append_ #[t,t'] ty #[.slice base sLen sCap,.slice xa n xc]).run P w =
  .ok (.slice (some ⟨w.heap.size,0,none⟩) (sLen+n) (grownCap w (sLen+n) sCap e)) (w.drew.alloc (.cells (olds.toArray++news.toArray++Builtin.zeroCells z.cells (grownCap w (sLen+n) sCap e-(sLen+n))) e)):=by
 have h1:=fN (P:=P) (w:=w.drew) (cap:=sCap) (n':=sLen) (a:=base) ho ho2
 have h2:=fN (P:=P) (w:=w.drew) (cap:=xc) (n':=n) (a:=xa) hn hn2
 have hns:¬sLen+n≤sCap:=by omega
 have hmax:IntKind.i64.max=9223372036854775807:=rfl
 have hns2:¬(((sLen+n:Nat):Int) > IntKind.i64.max):=by rw [hmax]; omega
 have hns3:¬(Builtin.nextslicecap (sLen+n) sCap*i.bytes > 2 ^ 48):=by have:=growslice_fits hg hfit; omega
 simp only [Builtin.append_,List.getElem?_toArray,List.getElem?_cons_zero,List.getElem?_cons_succ,Sem.run_bind,run_underlying hd,run_underlying hd',Result.andThen_ok,bo hi,Sem.run_pure,Bool.false_eq_true,if_false,Builtin.lenOf,hns,
  hns2,false_and,typeInfo,run_program,hi,hns3,run_choose,Question.forced,run_askRoom,Bool.not_false,if_true]
 rw [show ({ w with drawn:=w.drawn+1 }:World)=w.drew from rfl,h1]
 simp only [Result.andThen_ok,h2,zeroValue,Sem.run_bind,typeInfo,run_program,hi,hz,Sem.run_pure,newRow,run_newObj]
 rfl
theorem fZ {P:Program} {t t' e e':TypeId} {ty:TypeId} {i:TypeInfo} (hd:P.underlying t=some (.slice e)) (hd':P.underlying t'=some (.slice e')) (hi:P.info? e=some i) {w:World}
 {base xa:Option Addr} {sLen sCap n xc:Nat} {news:List Value}
 (hn:news.length=n*i.size) (hn2:news=[]∨∃b o,xa=some ⟨b,o,none⟩∧aD w b o news) (hg:sLen+n≤sCap) {w':World}
 (hst:match base with|some a=>(storeCells (a.add (sLen*i.size)) news).run P w = .ok () w'|none=>w'=w) :
 (Builtin.append_ #[t,t'] ty #[.slice base sLen sCap,.slice xa n xc]).run P w = .ok (.slice base (sLen+n) sCap) w':=by
 have h2:=fN (P:=P) (w:=w) (cap:=xc) (n':=n) (a:=xa) hn hn2
 simp only [Builtin.append_,List.getElem?_toArray,List.getElem?_cons_zero,List.getElem?_cons_succ,Sem.run_bind,run_underlying hd,run_underlying hd',Result.andThen_ok,bo hi,Sem.run_pure,Bool.false_eq_true,if_false,Builtin.lenOf,hg,if_true,
  Bool.not_false,h2]
 cases base with
 | none=>simp only at hst; subst hst; rfl
 | some a=>simp only at hst; simp only [Sem.run_bind,hst,Result.andThen_ok,Sem.run_pure]
def Cx.drew (c:Cx):Cx:={ c with w:=c.w.drew }
theorem Stp.drew (c:Cx):Stp c c.drew :=
 ⟨rfl,rfl,rfl,Nat.le_refl _,fun _ _ _=>rfl,fun _ h=>h,fun _ _ => .inl rfl,fun id e h hr => .inr ⟨id,e,h,hr,rfl⟩,fun _ _=>⟨fun h=>h,fun _ h=>h⟩⟩
theorem HOk.of_step {c c':Cx} {f:Nat→BS} (hk:HOk c f) (hs:Stp c c') (hU:∀id,c'.U id↔c.U id) (hmu:c'.mu=c.mu) (hF:c'.shut) (hheap:∀id e,c.mu id=some e→e.real=true→c'.w.heap[e.block]?=c.w.heap[e.block]?):HOk c' f:=by
 constructor
 ·intro id; rw [hU]; exact hk.used id
 ·intro id h; rw [hmu]; exact hk.none id h
 ·intro id sz l h
  obtain ⟨e,he,h1,h2,h3⟩:=hk.live id sz l h
  refine ⟨e,by rw [hmu]; exact he,h1,h2,fun hr=>?_⟩
  obtain ⟨hre,htot,cs,ty,hh,hsz⟩:=h3 hr
  have hb:=hheap id e he hr
  refine ⟨Re.of_get fun i a hi=>?_,htot,cs,ty,by rw [hb]; exact hh,hsz⟩
  obtain ⟨v,g1,g2,g3,g4,g5⟩:=hre.get i a hi
  exact ⟨v,g1.keep hs hk.shut,g2,g3,g4,g5.block hb⟩
 ·intro id o t h
  obtain ⟨e,oo,he,h1,h2,h3,hS,h4,h5,h6⟩:=hk.obj id o t h
  exact ⟨e,oo,by rw [hmu]; exact he,h1,h2,h3,hS,by rw [hheap id e he h1]; exact h4,fun k=>(h5 k).keep hs hk.shut,h6⟩
 ·intro i j ei ej hi hj; rw [hmu] at hi hj; exact hk.inj i j ei ej hi hj
 ·exact hF
theorem HOk.drew {c:Cx} {f:Nat→BS} (hk:HOk c f):HOk c.drew f :=
 hk.of_step (Stp.drew c) (fun _=>Iff.rfl) rfl hk.shut (fun _ _ _ _=>rfl)
def Cx.kill (c:Cx) (id:Nat):Cx:={ c with mu:=ar c.mu id none }
theorem nx {c:Cx} {id j:Nat} {e:Ent} (h:(c.kill id).mu j=some e):j≠id∧c.mu j=some e:=by
 simp only [Cx.kill] at h
 by_cases hj:j=id
 ·subst hj; rw [ah] at h; cases h
 ·rw [ac _ _ _ hj] at h; exact ⟨hj,h⟩
theorem Stp.kill (c:Cx) (id:Nat):Stp c (c.kill id) where
 os:=rfl
 tape:=rfl
 output:=rfl
 size:=Nat.le_refl _
 keep:=fun _ _ _=>rfl
 U:=fun _ h=>h
 mu:=fun j _=>by
  by_cases hj:j=id
  ·subst hj; right; exact ah _ _ _
  ·left; exact ac _ _ _ hj
 new:=fun j e he hr => .inr ⟨j,e,(nx he).2,hr,rfl⟩
 F:=fun _ _=>⟨fun h=>h,fun _ h=>h⟩
theorem HOk.kill {c:Cx} {f:Nat→BS} (hk:HOk c f) {id:Nat} (hid:f id ≠ .fresh):HOk (c.kill id) (ar f id .dead):=by
 constructor
 ·intro j
  by_cases hj:j=id
  ·subst hj; simp [Cx.kill,hk.used j,hid]
  ·rw [ac _ _ _ hj]; exact hk.used j
 ·intro j h
  by_cases hj:j=id
  ·subst hj; exact ah _ _ _
  ·rw [ac _ _ _ hj] at h
   rw [show (c.kill id).mu j=c.mu j from ac _ _ _ hj]; exact hk.none j h
 ·intro j sz l h
  by_cases hj:j=id
  ·subst hj; rw [ah] at h; cases h
  ·rw [ac _ _ _ hj] at h
   obtain ⟨e,he,h1,h2,h3⟩:=hk.live j sz l h
   refine ⟨e,by rw [show (c.kill id).mu j=c.mu j from ac _ _ _ hj]; exact he,h1,h2,fun hr=>?_⟩
   obtain ⟨hre,rest⟩:=h3 hr
   refine ⟨Re.of_get fun i a hi=>?_,rest⟩
   obtain ⟨v,g1,g2⟩:=hre.get i a hi
   exact ⟨v,g1.keep (Stp.kill c id) hk.shut,g2⟩
 ·intro j o t h
  by_cases hj:j=id
  ·subst hj; rw [ah] at h; cases h
  ·rw [ac _ _ _ hj] at h
   obtain ⟨e,oo,he,h1,h2,h3,hS,h4,h5,h6⟩:=hk.obj j o t h
   exact ⟨e,oo,by rw [show (c.kill id).mu j=c.mu j from ac _ _ _ hj]; exact he,h1,h2,h3,hS,h4,fun k=>(h5 k).keep (Stp.kill c id) hk.shut,h6⟩
 ·intro i j ei ej hi hj; exact hk.inj i j ei ej (nx hi).2 (nx hj).2
 ·intro j e he hr; exact hk.shut j e (nx he).2 hr
def Cx.ren (c:Cx) (id id':Nat) (e:Ent):Cx:={ c with mu:=ar (ar c.mu id none) id' (some e),U:=fun j=>c.U j∨j=id' }
theorem Hr {c:Cx} {f:Nat→BS} (hk:HOk c f) {id id' sz:Nat} {l:List AV} (hf:f id = .live sz l) (hid:f id' = .fresh) {e:Ent} (he:c.mu id=some e) (off:Nat) (hoff:off≤l.length) :
 HOk (c.ren id id' { e with base:=e.base+off*sz }) (ar (ar f id .dead) id' (.live sz (l.drop off)))∧Stp c (c.ren id id' { e with base:=e.base+off*sz }):=by
 have hne:id'≠id:=fun h=>by subst h; rw [hf] at hid; cases hid
 have hm':(c.ren id id' { e with base:=e.base+off*sz }).mu id'=some { e with base:=e.base+off*sz }:=ah _ _ _
 have hm0:(c.ren id id' { e with base:=e.base+off*sz }).mu id=none:=by
  simp only [Cx.ren]; rw [ac _ _ _ (Ne.symm hne),ah]
 have hmj:∀j,j≠id→j≠id'→(c.ren id id' { e with base:=e.base+off*sz }).mu j=c.mu j:=fun j h1 h2=>by
  simp only [Cx.ren]; rw [ac _ _ _ h2,ac _ _ _ h1]
 have hback:∀j en,(c.ren id id' { e with base:=e.base+off*sz }).mu j=some en→(j=id'∧en={ e with base:=e.base+off*sz })∨(j≠id'∧j≠id∧c.mu j=some en):=by
  intro j en h
  by_cases h1:j=id'
  ·subst h1; rw [hm'] at h; injection h with h; exact .inl ⟨rfl,h.symm⟩
  ·by_cases h2:j=id
   ·subst h2; rw [hm0] at h; cases h
   ·rw [hmj j h2 h1] at h; exact .inr ⟨h1,h2,h⟩
 have hst:Stp c (c.ren id id' { e with base:=e.base+off*sz }):=by
  refine ⟨rfl,rfl,rfl,Nat.le_refl _,fun _ _ _=>rfl,fun _ h => .inl h,fun j hj=>?_,fun j en h hr=>?_,fun _ _=>⟨fun h=>h,fun _ h=>h⟩⟩
  ·have h1:j≠id':=fun h=>by subst h; exact (hk.used j).1 hj hid
   by_cases h2:j=id
   ·subst h2; exact .inr hm0
   ·exact .inl (hmj j h2 h1)
  ·rcases hback j en h with ⟨_,rfl⟩|⟨_,_,h3⟩
   ·exact .inr ⟨id,e,he,hr,rfl⟩
   ·exact .inr ⟨j,en,h3,hr,rfl⟩
 refine ⟨?_,hst⟩
 constructor
 ·intro j
  by_cases h1:j=id'
  ·subst h1; simp [Cx.ren]
  ·rw [ac _ _ _ h1]
   by_cases h2:j=id
   ·subst h2; simp [Cx.ren,hk.used j,hf]
   ·rw [ac _ _ _ h2]; simp [Cx.ren,hk.used j,h1]
 ·intro j h
  by_cases h1:j=id'
  ·subst h1; rw [ah] at h; simp at h
  ·rw [ac _ _ _ h1] at h
   by_cases h2:j=id
   ·subst h2; exact hm0
   ·rw [ac _ _ _ h2] at h; rw [hmj j h2 h1]; exact hk.none j h
 ·intro j s m h
  by_cases h1:j=id'
  ·subst h1
   rw [ah] at h; injection h with h3 h4; subst h3; subst h4
   obtain ⟨e',he',h5,h6,h7⟩:=hk.live id sz l hf
   rw [he] at he'; injection he' with he'; subst he'
   refine ⟨_,hm',h5,fun hr=>by rw [h6 hr]; simp,fun hr=>?_⟩
   obtain ⟨hre,htot,cs,ty,hh,hsz⟩:=h7 hr
   refine ⟨Re.of_get fun i a hi=>?_,?_,cs,ty,hh,hsz⟩
   ·rw [List.getElem?_drop] at hi
    obtain ⟨v,g1,g2,g3,g4,g5⟩:=hre.get _ a hi
    refine ⟨v,g1.keep hst hk.shut,g2,g3,g4,?_⟩
    rwa [show e.base+(off+i)*sz=e.base+off*sz+i*sz by rw [Nat.add_mul]; omega] at g5
   ·show e.base+off*sz+(l.drop off).length*sz≤e.total
    rw [List.length_drop,Nat.add_assoc,←Nat.add_mul,show off+(l.length-off)=l.length by omega]; exact htot
  ·rw [ac _ _ _ h1] at h
   by_cases h2:j=id
   ·subst h2; rw [ah] at h; cases h
   ·rw [ac _ _ _ h2] at h
    obtain ⟨en,hen,h5,h6,h7⟩:=hk.live j s m h
    refine ⟨en,by rw [hmj j h2 h1]; exact hen,h5,h6,fun hr=>?_⟩
    obtain ⟨hre,rest⟩:=h7 hr
    refine ⟨Re.of_get fun i a hi=>?_,rest⟩
    obtain ⟨v,g1,g2⟩:=hre.get i a hi
    exact ⟨v,g1.keep hst hk.shut,g2⟩
 ·intro j o t h
  by_cases h1:j=id'
  ·subst h1; rw [ah] at h; cases h
  ·rw [ac _ _ _ h1] at h
   by_cases h2:j=id
   ·subst h2; rw [ah] at h; cases h
   ·rw [ac _ _ _ h2] at h
    obtain ⟨en,oo,hen,g1,g2,g3,gS,g4,g5,g6⟩:=hk.obj j o t h
    exact ⟨en,oo,by rw [hmj j h2 h1]; exact hen,g1,g2,g3,gS,g4,fun k=>(g5 k).keep hst hk.shut,g6⟩
 ·intro i j ei ej hi hj hri hrj hb
  rcases hback i ei hi with ⟨rfl,rfl⟩|⟨hi1,hi2,hi3⟩<;>rcases hback j ej hj with ⟨rfl,rfl⟩|⟨hj1,hj2,hj3⟩
  ·rfl
  ·exact absurd (hk.inj j id ej e hj3 he hrj hri hb.symm) hj2
  ·exact absurd (hk.inj i id ei e hi3 he hri hrj hb) hi2
  ·exact hk.inj i j ei ej hi3 hj3 hri hrj hb
 ·intro j en h hr
  rcases hback j en h with ⟨_,rfl⟩|⟨_,_,h3⟩
  ·exact hk.shut id e he hr
  ·exact hk.shut j en h3 hr
theorem rH {c:Cx} {f:Nat→BS} (hk:HOk c f) {x:AV} {v:Value} (hx:Rv c x v) {new:List AV} (hn:b_ f x=some new) (hfit:cX f x):∃a cap vs,v = .slice a new.length cap∧lF c (rb x) new vs ∧
 (vs.flatMap (·.cells.toList)=[]∨∃b o,a=some ⟨b,o,none⟩∧aD c.w b o (vs.flatMap (·.cells.toList))):=by
 cases x<;>simp only [b_] at hn<;>try (cases hn; done)
 case sl sz tight l =>
  injection hn with hn; subst hn
  simp only [Rv] at hx
  obtain ⟨a,cap,rfl,h1,h2,h3⟩:=hx
  rcases h3 with rfl|⟨b,o,rfl,hb,hF,hre⟩
  ·exact ⟨a,cap,[],rfl,lF.nil c _,.inl rfl⟩
  ·obtain ⟨vs,e1,e2⟩:=hre.els
   exact ⟨_,cap,vs,rfl,e1,.inr ⟨b,o,rfl,e2⟩⟩
 case own sz id off len =>
  split at hn
  ·rename_i sz' l hf
   injection hn with hn; subst hn
   simp only [Rv] at hx
   obtain ⟨hU,hesz,a,cap,rfl,h1,h2⟩:=hx
   obtain ⟨e,he,h3,h4,h5⟩:=hk.live id sz' l hf
   have hs:=hesz e he
   simp only [cX,hf] at hfit
   have hlen:((l.drop off).take len).length=len:=by simp; omega
   rw [hlen]
   cases hr:e.real with
   | false =>
    have h0:=h4 hr; subst h0
    exact ⟨a,cap,[],rfl,by simpa using lF.nil c _,.inl rfl⟩
   | true =>
    obtain ⟨hre,_⟩:=h5 hr
    obtain ⟨vs,e1,e2⟩:=(hre.slice off len).els
    refine ⟨a,cap,vs,rfl,?_,?_⟩
    ·simp only [rb]; rw [←hs,h3]; exact e1
    ·rcases h2 with rfl|⟨b,o,rfl,hall⟩
     ·left
      have:len=0:=by omega
      subst this
      have h0:vs=[]:=by
       have:=e1.1; simp at this; exact this
      subst h0; rfl
     ·right
      obtain ⟨_,rfl,rfl,_⟩:=hall e he
      refine ⟨_,_,rfl,?_⟩
      rw [h3]; exact e2
  ·cases hn
theorem su {c:Cx} {f:Nat→BS} (hk:HOk c f) {id:Nat} (hid:f id = .fresh) (sz:Nat) :
 HOk { c with mu:=ar c.mu id (some ⟨false,0,0,sz,0⟩),U:=fun j=>c.U j∨j=id } (ar f id (.live sz []))∧Stp c { c with mu:=ar c.mu id (some ⟨false,0,0,sz,0⟩),U:=fun j=>c.U j∨j=id }:=by
 have hback:∀j e,ar c.mu id (some ⟨false,0,0,sz,0⟩) j=some e→e.real=true→j≠id∧c.mu j=some e:=by
  intro j e h hr
  by_cases hj:j=id
  ·subst hj; rw [ah] at h; injection h with h; subst h; cases hr
  ·rw [ac _ _ _ hj] at h; exact ⟨hj,h⟩
 have hst:Stp c { c with mu:=ar c.mu id (some ⟨false,0,0,sz,0⟩),U:=fun j=>c.U j∨j=id }:=by
  refine ⟨rfl,rfl,rfl,Nat.le_refl _,fun _ _ _=>rfl,fun _ h => .inl h,fun j hj=>?_,fun j e h hr => .inr ⟨j,e,(hback j e h hr).2,hr,rfl⟩,fun _ _=>⟨fun h=>h,fun _ h=>h⟩⟩
  have h1:j≠id:=fun h=>by subst h; exact (hk.used j).1 hj hid
  exact .inl (ac _ _ _ h1)
 refine ⟨?_,hst⟩
 constructor
 ·intro j
  by_cases h1:j=id
  ·subst h1; simp
  ·rw [ac _ _ _ h1]; simp [hk.used j,h1]
 ·intro j h
  by_cases h1:j=id
  ·subst h1; rw [ah] at h; simp at h
  ·rw [ac _ _ _ h1] at h
   show ar c.mu id _ j=_
   rw [ac _ _ _ h1]; exact hk.none j h
 ·intro j s m h
  by_cases h1:j=id
  ·subst h1; rw [ah] at h; injection h with h3 h4; subst h3; subst h4
   exact ⟨_,ah _ _ _,rfl,fun _=>rfl,fun h=>by cases h⟩
  ·rw [ac _ _ _ h1] at h
   obtain ⟨en,hen,h5,h6,h7⟩:=hk.live j s m h
   refine ⟨en,by rw [←hen]; exact ac _ _ _ h1,h5,h6,fun hr=>?_⟩
   obtain ⟨hre,rest⟩:=h7 hr
   refine ⟨Re.of_get fun i a hi=>?_,rest⟩
   obtain ⟨v,g1,g2⟩:=hre.get i a hi
   exact ⟨v,g1.keep hst hk.shut,g2⟩
 ·intro j o t h
  by_cases h1:j=id
  ·subst h1; rw [ah] at h; cases h
  ·rw [ac _ _ _ h1] at h
   obtain ⟨en,oo,hen,g1,g2,g3,gS,g4,g5,g6⟩:=hk.obj j o t h
   exact ⟨en,oo,by rw [←hen]; exact ac _ _ _ h1,g1,g2,g3,gS,g4,fun k=>(g5 k).keep hst hk.shut,g6⟩
 ·intro i j ei ej hi hj hri hrj hb
  exact hk.inj i j ei ej (hback i ei hi hri).2 (hback j ej hj hrj).2 hri hrj hb
 ·intro j e h hr; exact hk.shut j e (hback j e h hr).2 hr
theorem yZ {P:Program} {c:Cx} {f:Nat→BS} (hk:HOk c f) {id:Nat} (hid:f id = .fresh) {t t' e e' ty:TypeId} {te:TI} (hd:P.underlying t=some (.slice e)) (hd':P.underlying t'=some (.slice e')) (hte:ak P e=some te)
 {sz:Nat} {l new:List AV} {y:AV} {vx vy:Value} (hx:Rv c (.sl sz true l) vx) (hy:Rv c y vy) (hn:b_ f y=some new) (hfit:cX f y) (hsz:te.size=sz∨l=[]) (hsy:rb y=te.size∨new=[]) (hpos:0<te.size) (hbp:0<te.bytes) (hln:l=[]∨new≠[])
 (hb:((l.length+new.length:Nat):Int)*te.bytes≤70368744177664) :
 ∃r c',(Builtin.append_ #[t,t'] ty #[vx,vy]).run P c.w = .ok r c'.w∧Rv c' (.own te.size id 0 (l.length+new.length)) r∧HOk c' (ar f id (.live te.size (l++new)))∧Stp c c':=by
 obtain ⟨d,i,z,hde,hi,hz,hisz,hby,_,_,hzs,_⟩:=ao hte
 obtain ⟨ya,ycap,vs,rfl,els,hcy⟩:=rH hk hy hn hfit
 obtain ⟨xa,xcap,us,rfl,elx,hcx⟩:=rH (f:=f) hk hx (new:=l) rfl trivial
 have hxt:xcap=l.length:=by
  simp only [Rv] at hx
  obtain ⟨a,cap,h1,h2,h3,_⟩:=hx
  injection h1 with _ _ h1; rw [h1]; exact h3 trivial
 subst hxt
 have elx':lF c te.size l us:=by
  rcases hsz with h|rfl
  ·rw [h]; exact elx
  ·have:=elx.1; simp at this; subst this; exact lF.nil _ _
 have els':lF c te.size new vs:=by
  rcases hsy with h|rfl
  ·rw [←h]; exact els
  ·have:=els.1; simp at this; subst this; exact lF.nil _ _
 have hol:=cI elx'.size
 have hnl:=cI els'.size
 rw [elx'.1,hisz] at hol; rw [els'.1,hisz] at hnl
 have hbn:(l.length+new.length)*i.bytes≤70368744177664:=by rw [←hby]; omega
 have hrn:new.length=0→l.length=0→(Builtin.append_ #[t,t'] ty #[.slice xa l.length l.length,.slice ya new.length ycap]).run P c.w = .ok (.slice xa 0 0) c.w:=by
  intro g1 g2
  have hv0:vs.flatMap (·.cells.toList)=[]:=List.eq_nil_of_length_eq_zero (by rw [hnl,g1]; simp)
  rw [g1,g2]
  have:=fZ (P:=P) (ty:=ty) hd hd' hi (w:=c.w) (base:=xa) (xa:=ya) (sLen:=0) (sCap:=0) (n:=0) (xc:=ycap) (news:=[]) (by simp) (.inl rfl) (by omega) (w':=c.w) (by cases xa<;>simp [storeCells])
  simpa using this
 by_cases h0:new.length=0
 ·
  have hnew:new=[]:=List.eq_nil_of_length_eq_zero h0
  subst hnew
  have hl0:=hln.resolve_right (by simp)
  subst hl0
  have hrn:=hrn rfl rfl
  simp only [List.length_nil] at hrn ⊢
  refine ⟨_,{ c with mu:=ar c.mu id (some ⟨false,0,0,te.size,0⟩),U:=fun j=>c.U j∨j=id },hrn,?_,su hk hid te.size⟩
  simp only [Rv]
  refine ⟨.inr trivial,fun e' he'=>?_,_,0,rfl,Nat.le_refl _,.inl rfl⟩
  rw [ah] at he'; injection he' with he'; subst he'; rfl
 ·have hnbytes:l.length+new.length≤9223372036854775807:=by
   rw [←hby] at hbn
   have:(l.length+new.length)*1≤(l.length+new.length)*te.bytes:=Nat.mul_le_mul_left _ hbp
   omega
  have hrun:=mD (P:=P) (ty:=ty) hd hd' hi hz (w:=c.w) (base:=xa) (xa:=ya) (sLen:=l.length) (sCap:=l.length) (n:=new.length) (xc:=ycap) hol hcx hnl hcy (by omega) (by omega) hnbytes
  have hge:=grownCap_ge c.w (l.length+new.length) l.length e
  have hcells:(us.flatMap (·.cells.toList)).toArray++(vs.flatMap (·.cells.toList)).toArray++Builtin.zeroCells z.cells (grownCap c.w (l.length+new.length) l.length e-(l.length+new.length)) =
   ((us++vs).flatMap (·.cells.toList)++(Builtin.zeroCells z.cells (grownCap c.w (l.length+new.length) l.length e-(l.length+new.length))).toList).toArray:=by
   apply Array.ext'; simp
  rw [hcells] at hrun
  have hlie:=(elx'.append els').keep (Stp.drew c) hk.shut |>.lie _ _ (by rfl:(((us++vs).flatMap (·.cells.toList)++(Builtin.zeroCells z.cells (grownCap c.w (l.length+new.length) l.length e-(l.length+new.length))).toList).toArray).toList=_)
  refine ⟨_,_,hrun,kU c.drew id te.size _ _ _ _ hge ?_,jv hk.drew hid e hlie,(Stp.drew c).trans (Stp.more hk.drew hid _ _ _)⟩
  have hfl:=cI (elx'.append els').size
  rw [(elx'.append els').1] at hfl
  simp only [List.size_toArray,List.length_append,hfl,Array.length_toList,size_zeroCells,hzs,←hisz] at hfl ⊢
  rw [←Nat.add_mul]
  refine Nat.mul_le_mul_right _ ?_
  omega
theorem vA {P:Program} {c:Cx} {f:Nat→BS} (hk:HOk c f) {id:Nat} (hid:f id = .fresh) {t t' e e' ty:TypeId} {te:TI} (hd:P.underlying t=some (.slice e)) (hd':P.underlying t'=some (.slice e')) (hte:ak P e=some te)
 {sz sz' i off len:Nat} {L new:List AV} {y:AV} {vx vy:Value} (hf:f i = .live sz' L) (hx:Rv c (.own sz i off len) vx) (hy:Rv c y vy) (hn:b_ f y=some new) (hfit:cX f y) (hsz:te.size=sz) (hsy:rb y=sz∨new=[]) (hpos:0<sz) (hbp:0<te.bytes)
 (hol:off+len≤L.length) (hb:((len+new.length:Nat):Int)*te.bytes≤70368744177664) :
 ∃r c',(Builtin.append_ #[t,t'] ty #[vx,vy]).run P c.w = .ok r c'.w∧Rv c' (.own sz id 0 (len+new.length)) r∧HOk c' (ar (ar f i .dead) id (.live sz ((L.drop off).take len++new)))∧Stp c c':=by
 have hne:id≠i:=fun h=>by subst h; rw [hf] at hid; cases hid
 obtain ⟨d,ii,z,hde,hi,hz,hisz,hby,_,_,hzs,_⟩:=ao hte
 obtain ⟨ya,ycap,vs,rfl,els,hcy⟩:=rH hk hy hn hfit
 have hx':=hx
 simp only [Rv] at hx
 obtain ⟨hU,hesz,a,cap,rfl,hc1,hc2⟩:=hx
 obtain ⟨ent,hent,h3,h4,h5⟩:=hk.live i sz' L hf
 have hss:sz'=sz:=by rw [←h3]; exact hesz ent hent
 subst hss
 have els':lF c sz' new vs:=by
  rcases hsy with h|rfl
  ·rw [←h]; exact els
  ·have:=els.1; simp at this; subst this; exact lF.nil _ _
 have hnl:=cI els'.size
 rw [els'.1,←hsz,hisz] at hnl
 obtain ⟨oa,ocap,us,hov,elo,hco⟩:=rH (f:=f) hk hx' (new:=(L.drop off).take len) (by simp [b_,hf]) (by simpa [cX,hf] using hol)
 have hol2:((L.drop off).take len).length=len:=by simp; omega
 injection hov with ho1 ho2 ho3
 subst ho1
 have hoo:=cI elo.size
 rw [elo.1,hol2,show rb (.own sz' i off len)=sz' from rfl,←hsz,hisz] at hoo
 have hbn:(len+new.length)*ii.bytes≤70368744177664:=by rw [←hby]; omega
 have hn63:len+new.length≤9223372036854775807:=by
  rw [←hby] at hbn
  have:(len+new.length)*1≤(len+new.length)*te.bytes:=Nat.mul_le_mul_left _ hbp
  omega
 by_cases hroom:len+new.length≤cap
 ·
  cases hr:ent.real with
  | false =>
   have hL:=h4 hr
   subst hL
   have hlen0:len=0:=by simp at hol; omega
   subst hlen0
   rcases hc2 with rfl|⟨b,o,rfl,hall⟩
   ·have hnew:new.length=0:=by omega
    have hv0:vs.flatMap (·.cells.toList)=[]:=List.eq_nil_of_length_eq_zero (by rw [hnl,hnew]; simp)
    have hnew':new=[]:=List.eq_nil_of_length_eq_zero hnew
    subst hnew'
    have hrun:=fZ (P:=P) (ty:=ty) hd hd' hi (w:=c.w) (base:=a) (xa:=ya) (sLen:=0) (sCap:=0) (n:=0) (xc:=ycap) (news:=[]) (by simp) (.inl rfl) (by omega) (w':=c.w) (by cases a<;>simp [storeCells])
    have hk1:=hk.kill (id:=i) (by rw [hf]; simp)
    obtain ⟨hk2,hs2⟩:=su hk1 (id:=id) (by rw [ac _ _ _ hne]; exact hid) sz'
    refine ⟨_,{ (c.kill i) with mu:=ar (c.kill i).mu id (some ⟨false,0,0,sz',0⟩),U:=fun j=>(c.kill i).U j∨j=id },(by simpa [Cx.kill] using hrun),?_,by simpa using hk2,(Stp.kill c i).trans hs2⟩
    simp only [Rv]
    refine ⟨.inr trivial,fun e' he'=>?_,_,0,rfl,by simp,.inl rfl⟩
    rw [ah] at he'; injection he' with he'; subst he'; rfl
   ·have:=(hall ent hent).1; rw [hr] at this; cases this
  | true =>
   obtain ⟨hre,htot,old,tyo,hold,hosz⟩:=h5 hr
   rcases hc2 with rfl|⟨b,o,rfl,hall⟩
   ·
    have hlen0:len=0:=by omega
    have hnew:new.length=0:=by omega
    subst hlen0
    have hnew':new=[]:=List.eq_nil_of_length_eq_zero hnew
    subst hnew'
    have hrun:=fZ (P:=P) (ty:=ty) hd hd' hi (w:=c.w) (base:=a) (xa:=ya) (sLen:=0) (sCap:=0) (n:=0) (xc:=ycap) (news:=[]) (by simp) (.inl rfl) (by omega) (w':=c.w) (by cases a<;>simp [storeCells])
    have hk1:=hk.kill (id:=i) (by rw [hf]; simp)
    obtain ⟨hk2,hs2⟩:=su hk1 (id:=id) (by rw [ac _ _ _ hne]; exact hid) sz'
    refine ⟨_,{ (c.kill i) with mu:=ar (c.kill i).mu id (some ⟨false,0,0,sz',0⟩),U:=fun j=>(c.kill i).U j∨j=id },(by simpa [Cx.kill] using hrun),?_,by simpa using hk2,(Stp.kill c i).trans hs2⟩
    simp only [Rv]
    refine ⟨.inr trivial,fun e' he'=>?_,_,0,rfl,by simp,.inl rfl⟩
    rw [ah] at he'; injection he' with he'; subst he'; rfl
   ·obtain ⟨_,rfl,rfl,hcap⟩:=hall ent hent
    rw [h3] at hcap
    let pos:=ent.base+off*ent.sz+len*ii.size
    have hiisz:ii.size=sz':=by rw [←hisz,hsz]
    have hposn:pos=ent.base+(off+len)*sz':=by simp only [pos,h3,hiisz,Nat.add_mul]; omega
    have hvl:(vs.flatMap (·.cells.toList)).length=new.length*sz':=by rw [hnl,hiisz]
    have hposle:pos+new.length*sz'≤old.size:=by
     rw [hosz,hposn]
     refine Nat.le_trans ?_ hcap
     rw [Nat.add_assoc,←Nat.add_mul,Nat.add_le_add_iff_left]
     exact Nat.mul_le_mul_right _ (by omega)
    have hst:=run_storeCells_at P ent.block pos tyo (vs.flatMap (·.cells.toList)) 0 old c.w hold (by rw [hvl]; omega) els'.ones
    simp only [Nat.add_zero] at hst
    let cs:=(old.toList.take pos++vs.flatMap (·.cells.toList)++old.toList.drop (pos+(vs.flatMap (·.cells.toList)).length)).toArray
    have hcs:cs.size=old.size:=by simp only [cs,List.size_toArray,List.length_append,List.length_take,List.length_drop,hvl,Array.length_toList]; omega
    have hrun:=fZ (P:=P) (ty:=ty) hd hd' hi (w:=c.w) (base:=some ⟨ent.block,ent.base+off*ent.sz,none⟩) (xa:=ya) (sLen:=len) (sCap:=cap) (n:=new.length) (xc:=ycap) hnl hcy hroom (w':=c.w.setRow ent.block cs) (by
     simp only [fH]
     exact hst)
    have hcold:∀k u,c.w.cell? ⟨ent.block,k,none⟩=some u→old[k]?=some u:=by
     intro k u hu
     unfold World.cell? at hu
     simp only [hold] at hu
     simpa using hu
    have hcget:∀k,k<pos→cs[k]?=old[k]?:=by
     intro k hk
     simp only [cs,List.getElem?_toArray]
     rw [List.append_assoc,List.getElem?_append_left (by simp; omega),List.getElem?_take,if_pos hk]; simp
    have hcget2:∀k,k<new.length*sz'→cs[pos+k]?=(vs.flatMap (·.cells.toList))[k]?:=by
     intro k hk
     have htl:(old.toList.take pos).length=pos:=by simp; omega
     simp only [cs,List.getElem?_toArray]
     rw [List.getElem?_append_left (by rw [List.length_append,htl,hvl]; omega),List.getElem?_append_right (by omega),htl]
     congr 1; omega
    have hlt:(L.take (off+len)).length=off+len:=by simp; omega
    have hw:=lB hk hf hent hr hold hcs (l':=L.take (off+len)++new) (by
     rw [List.length_append,hlt]
     refine Nat.le_trans ?_ hcap
     rw [Nat.add_le_add_iff_left]
     exact Nat.mul_le_mul_right _ (by omega)) (fun k q hq=>by
     rcases Nat.lt_or_ge k (off+len) with hk'|hk'
     ·rw [List.getElem?_append_left (by omega),List.getElem?_take,if_pos hk'] at hq
      obtain ⟨v,w1,w2,w3,w4,w5⟩:=hre.get k q hq
      refine ⟨v,w1,w2,w3,w4,fun j u hu=>?_⟩
      have hj:j<sz':=by
       rw [←w2]
       rcases Nat.lt_or_ge j v.cells.size with h'|h'
       ·exact h'
       ·rw [List.getElem?_eq_none (by simpa using h')] at hu; cases hu
      have hlt2:ent.base+k*sz'+j<pos:=by
       rw [hposn]
       have:(k+1)*sz'≤(off+len)*sz':=Nat.mul_le_mul_right _ hk'
       rw [Nat.succ_mul] at this; omega
      rw [hcget _ hlt2]
      exact hcold _ _ (w5 j u hu)
     ·rw [List.getElem?_append_right (by omega),hlt] at hq
      have hlt3:k-(off+len)<vs.length:=by
       rw [els'.1]
       rcases Nat.lt_or_ge (k-(off+len)) new.length with h'|h'
       ·exact h'
       ·rw [List.getElem?_eq_none h'] at hq; cases hq
      obtain ⟨w1,w2,w3,w4⟩:=els'.2 _ q _ hq (List.getElem?_eq_getElem hlt3)
      refine ⟨vs[k-(off+len)],w1,w2,w3,w4,fun j u hu=>?_⟩
      have hj:j<sz':=by
       rw [←w2]
       rcases Nat.lt_or_ge j (vs[k-(off+len)]).cells.size with h'|h'
       ·exact h'
       ·rw [List.getElem?_eq_none (by simpa using h')] at hu; cases hu
      have hg:=iZ els'.size _ j _ u (List.getElem?_eq_getElem hlt3) hu
      have hin:(k-(off+len))*sz'+j<new.length*sz':=by
       rw [els'.1] at hlt3
       have:(k-(off+len)+1)*sz'≤new.length*sz':=Nat.mul_le_mul_right _ hlt3
       rw [Nat.succ_mul] at this; omega
      have:=hcget2 _ hin
      rw [hg] at this
      rw [←this]
      congr 1
      rw [hposn]
      have:k*sz'=(off+len)*sz'+(k-(off+len))*sz':=by rw [←Nat.add_mul]; congr 1; omega
      omega)
    obtain ⟨hk2,hs2⟩:=Hr hw (id:=i) (id':=id) (ah _ _ _) (by rw [ac _ _ _ hne]; exact hid) (e:=ent) hent off (by simp; omega)
    refine ⟨_,_,hrun,?_,?_,(Stp.wrote hk hent hr cs).trans hs2⟩
    ·simp only [Rv]
     have hm:((c.wrote ent.block cs).ren i id { ent with base:=ent.base+off*sz' }).mu id=some { ent with base:=ent.base+off*sz' }:=ah _ _ _
     refine ⟨.inr rfl,fun e' he'=>?_,_,cap,rfl,hroom,.inr ⟨_,_,rfl,fun e' he'=>?_⟩⟩
     ·rw [hm] at he'; injection he' with he'; subst he'; exact h3
     ·rw [hm] at he'; injection he' with he'; subst he'
      refine ⟨hr,rfl,by simp [h3],?_⟩
      simp only [h3,Nat.zero_add]
      rw [Nat.add_assoc,←Nat.add_mul]; exact hcap
    ·have e1:(L.take (off+len)++new).drop off=(L.drop off).take len++new:=by
      rw [List.drop_append_of_le_length (by omega),List.drop_take]
      congr 2; omega
     rw [e1] at hk2
     have e2:ar (ar (ar f i (.live sz' (L.take (off+len)++new))) i .dead) id (.live sz' ((L.drop off).take len++new))=ar (ar f i .dead) id (.live sz' ((L.drop off).take len++new)):=by
      funext j; unfold ar; split<;>(try split)<;>rfl
     rw [e2] at hk2
     exact hk2
 ·
  have hrun:=mD (P:=P) (ty:=ty) hd hd' hi hz (w:=c.w) (base:=a) (xa:=ya) (sLen:=len) (sCap:=cap) (n:=new.length) (xc:=ycap) hoo hco hnl hcy (by omega) (by omega) hn63
  have hge:=grownCap_ge c.w (len+new.length) cap e
  have hcells:(us.flatMap (·.cells.toList)).toArray++(vs.flatMap (·.cells.toList)).toArray++Builtin.zeroCells z.cells (grownCap c.w (len+new.length) cap e-(len+new.length)) =
   ((us++vs).flatMap (·.cells.toList)++(Builtin.zeroCells z.cells (grownCap c.w (len+new.length) cap e-(len+new.length))).toList).toArray:=by
   apply Array.ext'; simp
  rw [hcells] at hrun
  have elo':lF c sz' ((L.drop off).take len) us:=elo
  have hk1:=(hk.kill (id:=i) (by rw [hf]; simp)).drew
  have hs1:Stp c (c.kill i).drew:=(Stp.kill c i).trans (Stp.drew _)
  have hlie:=(elo'.append els').keep hs1 hk.shut |>.lie _ _ (by rfl:(((us++vs).flatMap (·.cells.toList)++(Builtin.zeroCells z.cells (grownCap c.w (len+new.length) cap e-(len+new.length))).toList).toArray).toList=_)
  have hid1:ar f i .dead id = .fresh:=by rw [ac _ _ _ hne]; exact hid
  refine ⟨_,_,hrun,kU (c.kill i).drew id sz' _ _ _ _ hge ?_,jv hk1 hid1 e hlie,hs1.trans (Stp.more hk1 hid1 _ _ _)⟩
  have hfl:=cI (elo'.append els').size
  rw [(elo'.append els').1] at hfl
  simp only [List.size_toArray,List.length_append,hol2,Array.length_toList,size_zeroCells,hzs,←hisz,hsz] at hfl ⊢
  rw [hfl,←Nat.add_mul]
  refine Nat.mul_le_mul_right _ ?_
  omega
theorem sv {c:Cx} {f:Nat→BS} (hk:HOk c f) {id:Nat} (hid:f id = .fresh) (o:Obj) (tt:Nat→AV) (hv:∀k,Rv c (tt k) ((fu o).getD k undef)) (hcl:∀k,clo id (tt k)):HOk (c.more id o ⟨true,c.w.heap.size,0,0,0⟩) (ar f id (.obj o tt)):=by
 have hst:=Stp.more hk hid o 0 0
 have hmu:∀j,j≠id→(c.more id o ⟨true,c.w.heap.size,0,0,0⟩).mu j=c.mu j:=fun j hj=>ac _ _ _ hj
 have hmu0:(c.more id o ⟨true,c.w.heap.size,0,0,0⟩).mu id=some ⟨true,c.w.heap.size,0,0,0⟩:=ah _ _ _
 have hb:∀en:Ent,(∃j,c.mu j=some en)→en.real=true→(c.more id o ⟨true,c.w.heap.size,0,0,0⟩).w.heap[en.block]?=c.w.heap[en.block]?:=fun en ⟨j,he⟩ hr=>Go.RowKit.Below.heap_alloc _ _ _ (hk.lt he hr)
 constructor
 ·intro j
  by_cases hj:j=id
  ·subst hj; simp [Cx.more]
  ·rw [ac _ _ _ hj,←hk.used j]; simp [Cx.more,hj]
 ·intro j h
  by_cases hj:j=id
  ·subst hj; rw [ah] at h; simp at h
  ·rw [ac _ _ _ hj] at h; rw [hmu j hj]; exact hk.none j h
 ·intro j sz m h
  by_cases hj:j=id
  ·subst hj; rw [ah] at h; cases h
  ·rw [ac _ _ _ hj] at h
   obtain ⟨en,he,h1,h2,h3⟩:=hk.live j sz m h
   refine ⟨en,by rw [hmu j hj]; exact he,h1,h2,fun hr=>?_⟩
   obtain ⟨hre,htot,cs,ty,hh,hsz⟩:=h3 hr
   have hb:=hb en ⟨j,he⟩ hr
   refine ⟨Re.of_get fun i a hi=>?_,htot,cs,ty,by rw [hb]; exact hh,hsz⟩
   obtain ⟨v,g1,g2,g3,g4,g5⟩:=hre.get i a hi
   exact ⟨v,g1.keep hst hk.shut,g2,g3,g4,g5.block hb⟩
 ·intro j o' t' h
  by_cases hj:j=id
  ·subst hj; rw [ah] at h; injection h with h1 h2; subst h1; subst h2
   exact ⟨_,_,hmu0,rfl,rfl,rfl,kj.refl _,jN c.w _,fun k=>(hv k).keep hst hk.shut,hcl⟩
  ·rw [ac _ _ _ hj] at h
   obtain ⟨en,oo,he,h1,h2,h3,hS,h4,h5,h6⟩:=hk.obj j o' t' h
   exact ⟨en,oo,by rw [hmu j hj]; exact he,h1,h2,h3,hS,by rw [hb en ⟨j,he⟩ h1]; exact h4,fun k=>(h5 k).keep hst hk.shut,h6⟩
 ·intro i j ei ej hi hj hri hrj hbb
  by_cases h1:i=id<;>by_cases h2:j=id
  ·rw [h1,h2]
  ·subst h1
   rw [hmu0] at hi; injection hi with hi; subst hi
   rw [hmu j h2] at hj
   have:=hk.lt hj hrj
   simp at hbb; omega
  ·subst h2
   rw [hmu0] at hj; injection hj with hj; subst hj
   rw [hmu i h1] at hi
   have:=hk.lt hi hri
   simp at hbb; omega
  ·rw [hmu i h1] at hi; rw [hmu j h2] at hj
   exact hk.inj i j ei ej hi hj hri hrj hbb
 ·intro j en he hr
  by_cases hj:j=id
  ·subst hj; rw [hmu0] at he; injection he with he; subst he; exact .inr rfl
  ·rw [hmu j hj] at he; exact .inl (hk.shut j en he hr)
def Cx.obj (c:Cx) (g:Nat) (o:Obj):Cx:={ c with w:={ c.w with heap:=c.w.heap.setIfInBounds g o } }
theorem kZ {c:Cx} {f:Nat→BS} (hk:HOk c f) {id:Nat} {o0:Obj} {t0:Nat→AV} (hf:f id = .obj o0 t0) {e:Ent} (he:c.mu id=some e) (hr:e.real=true) (o:Obj) (tt:Nat→AV) (hv:∀k,Rv c (tt k) ((fu o).getD k undef)) (hcl:∀k,clo id (tt k)) {oA:Obj} (hsim:kj oA o:=by exact kj.refl _) :
 HOk (c.obj e.block o) (ar f id (.obj oA tt))∧Stp c (c.obj e.block o):=by
 have hother:∀b,b≠e.block→(c.obj e.block o).w.heap[b]?=c.w.heap[b]?:=fun b hb=>by
  simp only [Cx.obj]; exact Array.getElem?_setIfInBounds_ne (Ne.symm hb)
 have hat:(c.obj e.block o).w.heap[e.block]?=some o:=by
  simp only [Cx.obj]; rw [Array.getElem?_setIfInBounds_self_of_lt (hk.lt he hr)]
 have hst:Stp c (c.obj e.block o):=by
  refine ⟨rfl,rfl,rfl,by simp [Cx.obj],fun b hb hn=>hother b (fun h=>hn id e he hr h.symm),fun _ h=>h,fun _ _ => .inl rfl,fun j e' he' hr' => .inr ⟨j,e',he',hr',rfl⟩,fun _ _=>⟨fun h=>h,fun _ h=>h⟩⟩
 refine ⟨?_,hst⟩
 constructor
 ·intro j
  by_cases hj:j=id
  ·subst hj; simp [Cx.obj,hk.used j,hf]
  ·rw [ac _ _ _ hj]; exact hk.used j
 ·intro j h
  by_cases hj:j=id
  ·subst hj; rw [ah] at h; simp at h
  ·rw [ac _ _ _ hj] at h; exact hk.none j h
 ·intro j sz m h
  by_cases hj:j=id
  ·subst hj; rw [ah] at h; cases h
  ·rw [ac _ _ _ hj] at h
   obtain ⟨en,hen,h1,h2,h3⟩:=hk.live j sz m h
   refine ⟨en,hen,h1,h2,fun hrn=>?_⟩
   obtain ⟨hre,htot,cs,ty,hh,hsz⟩:=h3 hrn
   have hb:=hother en.block (fun hb=>hj (hk.inj j id en e hen he hrn hr hb))
   refine ⟨Re.of_get fun i a hi=>?_,htot,cs,ty,by rw [hb]; exact hh,hsz⟩
   obtain ⟨v,g1,g2,g3,g4,g5⟩:=hre.get i a hi
   exact ⟨v,g1.keep hst hk.shut,g2,g3,g4,g5.block hb⟩
 ·intro j o' t' h
  by_cases hj:j=id
  ·subst hj; rw [ah] at h; injection h with h1 h2; subst h1; subst h2
   obtain ⟨e',_,he',g1,g2,g3,_⟩:=hk.obj j o0 t0 hf
   rw [he] at he'; injection he' with he'; subst he'
   exact ⟨e,_,he,hr,g2,g3,hsim,hat,fun k=>(hv k).keep hst hk.shut,hcl⟩
  ·rw [ac _ _ _ hj] at h
   obtain ⟨en,oo,hen,h1,h2,h3,hS,h4,h5,h6⟩:=hk.obj j o' t' h
   have hb:=hother en.block (fun hb=>hj (hk.inj j id en e hen he h1 hr hb))
   exact ⟨en,oo,hen,h1,h2,h3,hS,by rw [hb]; exact h4,fun k=>(h5 k).keep hst hk.shut,h6⟩
 ·exact hk.inj
 ·exact hk.shut
mutual
def ro:AV→Prop
 | .own .. | .ptr .. | .yld .. | .mp .. => False
 | .agg cs=>roL cs
 | .tup cs=>roL cs
 | .sl _ _ l=>roL l
 | .rp cs=>roL cs
 | .fn _ fs cap=>roL fs∧roL cap
 | _=>True
def roL:List AV→Prop
 | []=>True
 | a::l=>ro a∧roL l
end
theorem fv {l:List AV}:roL l↔∀a∈l,ro a:=by
 induction l with
 | nil=>simp [roL]
 | cons a l ih=>simp [roL,ih]
theorem bC {α:Type} {g:α→AV} {l:List α} (h:∀x,ro (g x)):roL (l.map g):=fv.2 fun a ha=>by
 rw [List.mem_map] at ha; obtain ⟨x,_,rfl⟩:=ha; exact h x
theorem aB {l m:List AV}:roL (l++m)↔roL l∧roL m:=by
 simp only [fv,List.mem_append]
 exact ⟨fun h=>⟨fun a ha=>h a (.inl ha),fun a ha=>h a (.inr ha)⟩,fun h a ha=>ha.elim (h.1 a) (h.2 a)⟩
theorem bB {l:List AV} {n:Nat} (h:roL l):roL (l.take n):=fv.2 fun a ha=>fv.1 h a (List.mem_of_mem_take ha)
theorem uJ {l:List AV} {n:Nat} (h:roL l):roL (l.drop n):=fv.2 fun a ha=>fv.1 h a (List.mem_of_mem_drop ha)
mutual
def flat:AV→Prop
 | .own .. | .ptr .. | .sl .. | .rp .. | .yld .. | .mp .. => False
 | .agg cs=>flatL cs
 | .tup cs=>flatL cs
 | .fn _ fs cap=>flatL fs∧flatL cap
 | _=>True
def flatL:List AV→Prop
 | []=>True
 | a::l=>flat a∧flatL l
end
mutual
def aM (f:Nat→BS):AV→AV
 | .own sz id off len=>match f id with
  | .live _ l => .sl sz false ((l.drop off).take len)
  | _ => .any
 | .ptr id idx off=>match f id with
  | .live _ l => .rp ((l.getD idx .any).cells.drop off)
  | _ => .any
 | .agg cs => .agg (viewL f cs)
 | .tup cs => .tup (viewL f cs)
 | .fn g fs cap => .fn g (viewL f fs) (viewL f cap)
 | a=>a
def viewL (f:Nat→BS):List AV→List AV
 | []=>[]
 | a::l=>aM f a::viewL f l
end
mutual
def aE (f:Nat→BS):AV→Prop
 | .own sz id off len=>match f id with
  | .live _ l=>off+len≤l.length
  | .dead=>True
  | .obj .. => True
  | .fresh=>False
 | .ptr id idx off=>match f id with
  | .live _ l=>idx<l.length
  | .dead=>True
  | .obj .. => True
  | .fresh=>False
 | .agg cs=>fitsL f cs
 | .tup cs=>fitsL f cs
 | .sl _ _ l=>fitsL f l
 | .rp cs=>fitsL f cs
 | .fn _ fs cap=>fitsL f fs∧fitsL f cap
 | _=>True
def fitsL (f:Nat→BS):List AV→Prop
 | []=>True
 | a::l=>aE f a∧fitsL f l
end
mutual
theorem Rv.ro {c c':Cx} (hw:c'.w=c.w) (hF:∀b,b<c.w.heap.size→c'.F b→c.F b):∀(a:AV) (v:Value),ro a→Rv c a v→Rv c' a v
 | .any,_,_,_=>trivial
 | .bool _,_,_,h=>h
 | .int _ _,_,_,h=>h
 | .str _,_,_,h=>h
 | .agg cs,v,hro,h=>by
  simp only [Rv] at h ⊢
  obtain ⟨vs,rfl,h1,h⟩:=h
  exact ⟨vs,rfl,h1,Rl.ro hw hF cs _ (by simpa only [Go.Proofs.YtdnmfaljidjijaaGreat.ro] using hro) h⟩
 | .tup cs,v,hro,h=>by
  simp only [Rv] at h ⊢
  obtain ⟨vs,rfl,h⟩:=h
  exact ⟨vs,rfl,Rl.ro hw hF cs _ (by simpa only [Go.Proofs.YtdnmfaljidjijaaGreat.ro] using hro) h⟩
 | .sl sz tight l,v,hro,h=>by
  simp only [Rv] at h ⊢
  obtain ⟨a,cap,rfl,h1,h2,h3⟩:=h
  refine ⟨a,cap,rfl,h1,h2,?_⟩
  rcases h3 with h3|⟨b,o,rfl,hb,hFb,hre⟩
  ·exact .inl h3
  ·exact .inr ⟨b,o,rfl,by rw [hw]; exact hb,fun h=>hFb (hF b hb h),Re.ro hw hF sz _ b o (by simpa only [Go.Proofs.YtdnmfaljidjijaaGreat.ro] using hro) hre⟩
 | .own _ _ _ _,_,hro,_=>by simp only [Go.Proofs.YtdnmfaljidjijaaGreat.ro] at hro
 | .ptr _ _ _,_,hro,_=>by simp only [Go.Proofs.YtdnmfaljidjijaaGreat.ro] at hro
 | .rp cs,v,hro,h=>by
  simp only [Rv] at h ⊢
  obtain ⟨b,o,vs,rfl,hb,hFb,h0,h1,h2⟩:=h
  exact ⟨b,o,vs,rfl,by rw [hw]; exact hb,fun h=>hFb (hF b hb h),h0,Rl.ro hw hF cs vs (by simpa only [Go.Proofs.YtdnmfaljidjijaaGreat.ro] using hro) h1,by rw [hw]; exact h2⟩
 | .fn f fs cap,v,hro,h=>by
  simp only [Rv] at h ⊢
  simp only [Go.Proofs.YtdnmfaljidjijaaGreat.ro] at hro
  obtain ⟨a,b,rfl,h1,h2⟩:=h
  exact ⟨a,b,rfl,Rl.ro hw hF fs _ hro.1 h1,Rl.ro hw hF cap _ hro.2 h2⟩
 | .yld _,_,hro,_=>by simp only [Go.Proofs.YtdnmfaljidjijaaGreat.ro] at hro
 | .mp _,_,hro,_=>by simp only [Go.Proofs.YtdnmfaljidjijaaGreat.ro] at hro
 | .nilp,_,_,h=>h
theorem Rl.ro {c c':Cx} (hw:c'.w=c.w) (hF:∀b,b<c.w.heap.size→c'.F b→c.F b):∀(l:List AV) (vs:List Value),roL l→Rl c l vs→Rl c' l vs
 | [],_,_,h=>h
 | a::l,vs,hro,h=>by
  simp only [Rl] at h ⊢
  simp only [roL] at hro
  obtain ⟨v,r,rfl,h1,h2⟩:=h
  exact ⟨v,r,rfl,Rv.ro hw hF a v hro.1 h1,Rl.ro hw hF l r hro.2 h2⟩
theorem Re.ro {c c':Cx} (hw:c'.w=c.w) (hF:∀b,b<c.w.heap.size→c'.F b→c.F b) (sz:Nat):∀(l:List AV) (b o:Nat),roL l→Re c sz l b o→Re c' sz l b o
 | [],_,_,_,_=>trivial
 | a::l,b,o,hro,h=>by
  simp only [Re] at h ⊢
  simp only [roL] at hro
  obtain ⟨⟨v,h1,h2,h5,h0,h3⟩,h4⟩:=h
  exact ⟨⟨v,Rv.ro hw hF a v hro.1 h1,h2,h5,h0,by rw [hw]; exact h3⟩,Re.ro hw hF sz l b _ hro.2 h4⟩
end
mutual
theorem Rv.flat {c c':Cx}:∀(a:AV) (v:Value),flat a→Rv c a v→Rv c' a v
 | .any,_,_,_=>trivial
 | .bool _,_,_,h=>h
 | .int _ _,_,_,h=>h
 | .str _,_,_,h=>h
 | .agg cs,v,hf,h=>by
  simp only [Rv] at h ⊢
  obtain ⟨vs,rfl,h1,h⟩:=h
  exact ⟨vs,rfl,h1,Rl.flat cs _ (by simpa only [Go.Proofs.YtdnmfaljidjijaaGreat.flat] using hf) h⟩
 | .tup cs,v,hf,h=>by
  simp only [Rv] at h ⊢
  obtain ⟨vs,rfl,h⟩:=h
  exact ⟨vs,rfl,Rl.flat cs _ (by simpa only [Go.Proofs.YtdnmfaljidjijaaGreat.flat] using hf) h⟩
 | .sl _ _ _,_,hf,_=>by simp only [Go.Proofs.YtdnmfaljidjijaaGreat.flat] at hf
 | .own _ _ _ _,_,hf,_=>by simp only [Go.Proofs.YtdnmfaljidjijaaGreat.flat] at hf
 | .ptr _ _ _,_,hf,_=>by simp only [Go.Proofs.YtdnmfaljidjijaaGreat.flat] at hf
 | .rp _,_,hf,_=>by simp only [Go.Proofs.YtdnmfaljidjijaaGreat.flat] at hf
 | .fn f fs cap,v,hf,h=>by
  simp only [Rv] at h ⊢
  simp only [Go.Proofs.YtdnmfaljidjijaaGreat.flat] at hf
  obtain ⟨a,b,rfl,h1,h2⟩:=h
  exact ⟨a,b,rfl,Rl.flat fs _ hf.1 h1,Rl.flat cap _ hf.2 h2⟩
 | .yld _,_,hf,_=>by simp only [Go.Proofs.YtdnmfaljidjijaaGreat.flat] at hf
 | .mp _,_,hf,_=>by simp only [Go.Proofs.YtdnmfaljidjijaaGreat.flat] at hf
 | .nilp,_,_,h=>h
theorem Rl.flat {c c':Cx}:∀(l:List AV) (vs:List Value),flatL l→Rl c l vs→Rl c' l vs
 | [],_,_,h=>h
 | a::l,vs,hf,h=>by
  simp only [Rl] at h ⊢
  simp only [flatL] at hf
  obtain ⟨v,r,rfl,h1,h2⟩:=h
  exact ⟨v,r,rfl,Rv.flat a v hf.1 h1,Rl.flat l r hf.2 h2⟩
end
def Cx.bare (c:Cx) (F:Nat→Prop):Cx:={ w:=c.w,mu:=fun _=>none,U:=fun _=>False,F:=F }
theorem vc {c:Cx} {f:Nat→BS} (hk:HOk c f) {F:Nat→Prop} (hF:∀b,b<c.w.heap.size→F b→c.F b) (hown:∀id e,c.mu id=some e→e.real=true→¬F e.block) :
 (∀sz id off len v,Rv c (.own sz id off len) v→aE f (.own sz id off len)→ro (aM f (.own sz id off len))→Rv (c.bare F) (aM f (.own sz id off len)) v) ∧
 (∀id idx off v,Rv c (.ptr id idx off) v→aE f (.ptr id idx off)→ro (aM f (.ptr id idx off))→Rv (c.bare F) (aM f (.ptr id idx off)) v):=by
 constructor
 ·intro sz id off len v h hfit hro
  simp only [aM] at hro ⊢
  split at hro
  ·rename_i sz' l hf
   simp only [aE,hf] at hfit
   simp only [Rv] at h ⊢
   obtain ⟨hU,hesz,a,cap,rfl,h1,h2⟩:=h
   obtain ⟨e,he,h3,h4,h5⟩:=hk.live id sz' l hf
   have hs:=hesz e he
   have hlen:((l.drop off).take len).length=len:=by simp; omega
   refine ⟨a,cap,by rw [hlen],by rw [hlen]; exact h1,by simp,?_⟩
   rcases h2 with rfl|⟨b,o,rfl,hall⟩
   ·left; exact List.eq_nil_of_length_eq_zero (by omega)
   ·obtain ⟨hr,rfl,rfl,_⟩:=hall e he
    right
    refine ⟨_,_,rfl,hk.lt he hr,hown id e he hr,?_⟩
    obtain ⟨hre,_⟩:=h5 hr
    have:=hre.slice off len
    simp only [ro] at hro
    have h6:=Re.ro (c:=c) (c':=c.bare F) rfl hF sz' _ _ _ hro this
    rw [←hs,h3]; exact h6
  ·rename_i hnl
   cases hf:f id with
   | live sz' l=>exact absurd hf (hnl _ _)
   | _=>simp only [Rv]
 ·intro id idx off v h hfit hro
  simp only [aM] at hro ⊢
  split at hro
  ·rename_i sz' l hf
   simp only [aE,hf] at hfit
   simp only [Rv] at h ⊢
   obtain ⟨hU,b,o,rfl,hall⟩:=h
   obtain ⟨e,he,h3,h4,h5⟩:=hk.live id sz' l hf
   obtain ⟨hr,rfl,rfl⟩:=hall e he
   obtain ⟨hre,_⟩:=h5 hr
   obtain ⟨vs,g1,g2,g3,g4⟩:=j3 hre (i:=(idx:Int)) (by omega) (by omega)
   have hget:bk l (idx:Int)=l.getD idx .any:=by simp [bk]
   rw [hget] at g3
   simp only [ro] at hro
   refine ⟨_,_,vs.drop off,rfl,hk.lt he hr,hown id e he hr,fun u hu=>g2 u (List.mem_of_mem_drop hu),Rl.ro (c:=c) (c':=c.bare F) rfl hF _ _ hro (g3.drop off),?_⟩
   rw [h3]
   have:=g4.drop off
   simp only [Int.toNat_natCast] at this
   exact this
  ·rename_i hnl
   cases hf:f id with
   | live sz' l=>exact absurd hf (hnl _ _)
   | _=>simp only [Rv]
mutual
theorem s8 {c:Cx} {f:Nat→BS} (hk:HOk c f) {F:Nat→Prop} (hF:∀b,b<c.w.heap.size→F b→c.F b) (hown:∀id e,c.mu id=some e→e.real=true→¬F e.block) :
 ∀(a:AV) (v:Value),aE f a→ro (aM f a)→Rv c a v→Rv (c.bare F) (aM f a) v
 | .any,_,_,_,_=>by simp only [aM,Rv]
 | .bool _,_,_,_,h=>by simpa only [aM,Rv] using h
 | .int _ _,_,_,_,h=>by simpa only [aM,Rv] using h
 | .str _,_,_,_,h=>by simpa only [aM,Rv] using h
 | .agg cs,v,hfit,hro,h=>by
  simp only [aM,Rv] at h ⊢
  simp only [aM,ro] at hro
  simp only [aE] at hfit
  obtain ⟨vs,rfl,h1,h⟩:=h
  exact ⟨vs,rfl,h1,viewL_rv hk hF hown cs _ hfit hro h⟩
 | .tup cs,v,hfit,hro,h=>by
  simp only [aM,Rv] at h ⊢
  simp only [aM,ro] at hro
  simp only [aE] at hfit
  obtain ⟨vs,rfl,h⟩:=h
  exact ⟨vs,rfl,viewL_rv hk hF hown cs _ hfit hro h⟩
 | .sl sz tight l,v,_,hro,h=>by
  simp only [aM] at hro ⊢
  exact Rv.ro (c:=c) (c':=c.bare F) rfl hF _ _ hro h
 | .own _ _ _ _,v,hfit,hro,h=>(vc hk hF hown).1 _ _ _ _ v h hfit hro
 | .ptr _ _ _,v,hfit,hro,h=>(vc hk hF hown).2 _ _ _ v h hfit hro
 | .rp cs,v,_,hro,h=>by
  simp only [aM] at hro ⊢
  exact Rv.ro (c:=c) (c':=c.bare F) rfl hF _ _ hro h
 | .fn g fs cap,v,hfit,hro,h=>by
  simp only [aM,Rv] at h ⊢
  simp only [aM,ro] at hro
  simp only [aE] at hfit
  obtain ⟨a,b,rfl,h1,h2⟩:=h
  exact ⟨a,b,rfl,viewL_rv hk hF hown fs _ hfit.1 hro.1 h1,viewL_rv hk hF hown cap _ hfit.2 hro.2 h2⟩
 | .yld _,v,_,hro,_=>by simp only [aM,ro] at hro
 | .mp _,v,_,hro,_=>by simp only [aM,ro] at hro
 | .nilp,_,_,_,h=>by simpa only [aM,Rv] using h
theorem viewL_rv {c:Cx} {f:Nat→BS} (hk:HOk c f) {F:Nat→Prop} (hF:∀b,b<c.w.heap.size→F b→c.F b) (hown:∀id e,c.mu id=some e→e.real=true→¬F e.block) :
 ∀(l:List AV) (vs:List Value),fitsL f l→roL (viewL f l)→Rl c l vs→Rl (c.bare F) (viewL f l) vs
 | [],_,_,_,h=>by simpa only [viewL,Rl] using h
 | a::l,vs,hfit,hro,h=>by
  simp only [viewL,Rl] at h ⊢
  simp only [viewL,roL] at hro
  simp only [fitsL] at hfit
  obtain ⟨v,r,rfl,h1,h2⟩:=h
  exact ⟨v,r,rfl,s8 hk hF hown a v hfit.1 hro.1 h1,viewL_rv hk hF hown l r hfit.2 hro.2 h2⟩
end
open Go
set_option linter.unusedSimpArgs false
set_option linter.unusedVariables false
def HV (P : Program) (f : Nat → BS) (ρ : Operand → AV) (K : AV → (Nat → BS) → Prop) : Op → Prop
  | .call c =>
    match c.callee, c.argTypes.toList, c.args.toList with
    | .builtin .clear, [t], [x] =>
      match ak P t with
      | some ti => match ti.kind with
        | .slice e => match ak P e with
          | some te => match ρ x with
            | .own sz i off len => match f i with
              | .live sz' l => (te.size = sz ∧ 0 < len ∧ off + len ≤ l.length) ∧ K (.tup []) (ar f i (.live sz' (l.take off)))
              | _ => False
            | _ => False
          | none => False
        | _ => False
      | none => False
    | _, _, _ => False
  | _ => False
theorem pO {z:Array Value} {n:Nat} {u:Value} (h:u∈(Builtin.zeroCells z n).toList):u∈z.toList:=by
 unfold Builtin.zeroCells at h
 simp only [Array.toList_map,List.mem_map] at h
 obtain ⟨k,hk,rfl⟩:=h
 rw [Array.toList_range,List.mem_range] at hk
 have hz:0<z.size:=by
  rcases Nat.eq_zero_or_pos z.size with h|h
  ·rw [h] at hk; simp at hk
  ·exact h
 have hm:k%z.size<z.size:=Nat.mod_lt _ hz
 rw [getElem!_pos z _ hm]
 simp
theorem AY {P:Program} {f:Nat→BS} {ρA:Operand→AV} {ρ:Operand→Value} {K:AV→(Nat→BS)→Prop} {o:Oper} (h:HV P f ρA K o.op) {c:Cx} (hk:HOk c f) (hr:∀x,Rv c (ρA x) (ρ x)) :
 ∃r v f' c',(execOp ρ o).run P c.w = .ok (.value r) c'.w∧K v f'∧Rv c' v r∧HOk c' f'∧Stp c c'∧∀j,f' j = .fresh↔f j = .fresh:=by
 obtain ⟨dst,op,ty,pos,after,guard⟩:=o
 simp only at h
 cases op<;>(try (simp only [HV] at h; done))
 case call cl =>
  obtain ⟨callee,args,argTypes⟩:=cl
  simp only [HV] at h
  split at h
  ·rename_i t x hat hal
   have ha:args = #[x]:=by have:=congrArg List.toArray hal; simpa using this
   have hat':argTypes = #[t]:=by have:=congrArg List.toArray hat; simpa using this
   subst ha; subst hat'
   split at h
   ·rename_i ti ht
    split at h
    ·rename_i e hke
     split at h
     ·rename_i te hte
      split at h
      ·rename_i sz i off len hxa
       split at h
       ·rename_i sz' l hf
        obtain ⟨⟨g1,g2,g3⟩,hK⟩:=h
        obtain ⟨d,ii,z,hd,_,_,_,_,hk0,_⟩:=ao ht
        rw [hk0] at hke; have:=cG hke; subst this
        obtain ⟨d2,i2,z2,hd2,hi2,hz2,hs2,_,_,_,hzs2,hone2,_⟩:=ao hte
        have hx:=hr x
        rw [hxa] at hx
        simp only [Rv] at hx
        obtain ⟨hU,hsz,a,cap,hv,hcap,hc2⟩:=hx
        obtain ⟨en,hen,h3,h4,h5⟩:=hk.live i sz' l hf
        have hszs:sz'=sz:=by rw [←h3]; exact hsz en hen
        subst hszs
        rcases hc2 with hc2|⟨b,oo,rfl,hall⟩
        ·omega
        obtain ⟨hr2,rfl,rfl,htot2⟩:=hall en hen
        obtain ⟨hre,htot,old,tyo,hold,hosz⟩:=h5 hr2
        rw [h3] at htot2 hv
        let news:=(Builtin.zeroCells z2.cells len).toList
        have hnl:news.length=len*sz':=by simp only [news,Array.length_toList,size_zeroCells,hzs2,←hs2,g1]
        have hfit:en.base+off*sz'+news.length≤old.size:=by
         rw [hnl,hosz]
         refine Nat.le_trans ?_ htot2
         rw [Nat.add_assoc,←Nat.add_mul,Nat.add_le_add_iff_left]
         exact Nat.mul_le_mul_right _ (by omega)
        have hrun:=run_storeCells_at P en.block (en.base+off*sz') tyo news 0 old c.w hold (by simpa using hfit) (fun u hu=>hone2 u (pO hu))
        simp only [Nat.add_zero] at hrun
        let cs:=(old.toList.take (en.base+off*sz')++news++old.toList.drop (en.base+off*sz'+news.length)).toArray
        have hcs:cs.size=old.size:=by simp only [cs,List.size_toArray,List.length_append,List.length_take,List.length_drop,Array.length_toList]; omega
        have hcold:∀k u,c.w.cell? ⟨en.block,k,none⟩=some u→old[k]?=some u:=by
         intro k u hu
         unfold World.cell? at hu
         simp only [hold] at hu
         simpa using hu
        have hcget:∀k,k<en.base+off*sz'→cs[k]?=old[k]?:=by
         intro k hk
         simp only [cs,List.getElem?_toArray]
         rw [List.append_assoc,List.getElem?_append_left (by simp; omega),List.getElem?_take,if_pos hk]; simp
        refine ⟨.tuple #[],_,_,c.wrote en.block cs,?_,hK,?_,lB hk hf hen hr2 hold hcs (l':=l.take off) ?_ (fun k q hq=>?_),Stp.wrote hk hen hr2 cs,fun j=>?_⟩
        ·have hex:(Builtin.clear_ #[t] ty #[ρ x]).run P c.w = .ok (.tuple #[]) (c.w.setRow en.block cs):=by
          obtain ⟨m,rfl⟩:∃m,len=m+1:=⟨len-1,by omega⟩
          unfold Builtin.clear_
          simp only [hv,List.getElem?_toArray,List.getElem?_cons_zero,Sem.run_bind,run_underlying hd,Result.andThen_ok,zeroValue,typeInfo,run_program,hi2,Sem.run_pure,hz2]
          have e9:=congrArg (fun r=>Result.andThen r fun (_:Unit) w=>Result.ok (Value.tuple #[]) w) hrun
          exact e9
         simp only [execOp,resolve,Sem.run_bind,Sem.run_pure,Result.andThen_ok,invoke,builtin,List.map_toArray,List.map_cons,List.map_nil,hex]
         rfl
        ·simp only [Rv]; exact ⟨#[],rfl,by simp only [Rl]⟩
        ·refine Nat.le_trans ?_ htot
         rw [Nat.add_le_add_iff_left]
         exact Nat.mul_le_mul_right _ (by rw [List.length_take]; omega)
        ·rw [List.getElem?_take] at hq
         split at hq
         ·rename_i hko
          obtain ⟨v,w1,w2,w3,w4,w5⟩:=hre.get k q hq
          refine ⟨v,w1,w2,w3,w4,fun j u hu=>?_⟩
          have hj:j<sz':=by
           rw [←w2]
           rcases Nat.lt_or_ge j v.cells.size with h'|h'
           ·exact h'
           ·rw [List.getElem?_eq_none (by simpa using h')] at hu; cases hu
          have hlt2:en.base+k*sz'+j<en.base+off*sz':=by
           have:(k+1)*sz'≤off*sz':=Nat.mul_le_mul_right _ hko
           rw [Nat.succ_mul] at this; omega
          rw [hcget _ hlt2]
          exact hcold _ _ (w5 j u hu)
         ·cases hq
        ·by_cases hj:j=i
         ·subst hj; rw [ah,hf]; simp
         ·rw [ac _ _ _ hj]
       ·exact h.elim
      ·exact h.elim
     ·exact h.elim
    ·exact h.elim
   ·exact h.elim
  ·exact h.elim
theorem Al {P:Program} {id:Nat} {f:Nat→BS} {ρA:Operand→AV} {ρ:Operand→Value} {K:AV→(Nat→BS)→Prop} {o:Oper} (h:i9 P id f ρA K o.op) {c:Cx} (hk:HOk c f) (hid:f id = .fresh) (hr:∀x,Rv c (ρA x) (ρ x)) :
 ∃r v f' c',((execOp ρ o).run P c.w = .ok (.value r) c'.w∨((execOp ρ o).run P c.w = .ok .skip c'.w∧r=undef))∧K v f'∧Rv c' v r∧HOk c' f'∧Stp c c'∧∀j,j≠id→f j = .fresh→f' j = .fresh:=by
 obtain ⟨dst,op,ty,pos,after,guard⟩:=o
 simp only at h
 cases op<;>(try (simp only [i9] at h; done))
 case store t x v =>
  simp only [i9] at h
  split at h
  ·rename_i ti i idx off ht hxa
   split at h
   ·rename_i sz l hf
    obtain ⟨h1,h2,h3,h4,hK⟩:=h
    have hx:=hr x
    rw [hxa] at hx
    obtain ⟨c',hrun,hk',hs⟩:=uV hk ht hf (a := .any) hx (hr v) h1 h2 h3 h4
    refine ⟨undef,.any,_,c',.inr ⟨?_,rfl⟩,hK,by simp only [Rv],hk',hs,fun j hj hfj=>?_⟩
    ·simp only [execOp,Sem.run_bind,hrun,Result.andThen_ok,Sem.run_pure]
    ·rw [ac _ _ _ (fun h=>by subst h; rw [hf] at hfj; cases hfj)]; exact hfj
   ·exact h.elim
  ·exact h.elim
 case makeMap t r =>
  cases r with
  | some _=>exact h.elim
  | none =>
   simp only [i9] at h
   refine ⟨.map (some c.w.heap.size),_,_,c.more id (.map #[] 0) ⟨true,c.w.heap.size,0,0,0⟩,.inl ?_,h,?_,sv hk hid (.map #[] 0) (fun _ => .any) (fun _=>by simp only [Rv]) (fun _=>by simp only [clo]),Stp.more hk hid _ _ _,fun j hj hfj=>by rw [ac _ _ _ hj]; exact hfj⟩
   ·simp only [execOp,Instr.makeMap,Sem.run_bind,Result.andThen_ok,Sem.run_pure,run_newObj,Option.map_none]
    rfl
   ·simp only [Rv]
    refine ⟨.inr rfl,_,rfl,fun e he=>?_⟩
    rw [show (c.more id (.map #[] 0) ⟨true,c.w.heap.size,0,0,0⟩).mu id=some ⟨true,c.w.heap.size,0,0,0⟩ from ah _ _ _] at he
    injection he with he; subst he; exact ⟨rfl,rfl⟩
 case insert t m k v =>
  simp only [i9,Ae] at h
  split at h
  ·rename_i kd i kd' n hx hxm hxk
   split at h
   ·rename_i es cl tt hf
    obtain ⟨⟨rfl,hnone,hclo⟩,hK⟩:=h
    obtain ⟨ky,el,hty,hky⟩:=mM hx
    have hm:=hr m
    have hkk:=hr k
    rw [hxm] at hm; rw [hxk] at hkk
    simp only [Rv] at hm hkk
    obtain ⟨hU,l,hml,hall⟩:=hm
    obtain ⟨e,oo,he,hre,_,_,hS,hobj,hv,hcl⟩:=hk.obj i _ _ hf
    obtain ⟨_,rfl⟩:=hall e he
    simp only [kj] at hS
    obtain ⟨es',rfl,hes⟩:=hS
    rw [←hes] at hnone
    have hsz:es'.size=es.size:=by have:=congrArg List.length hes; simpa using this
    have hfind:=oe (P:=P) hky hnone c.w
    have hget:(getObj e.block).run P c.w = .ok (.map es' cl) c.w:=by simp only [getObj,Sem.run,hobj]
    obtain ⟨q1,q2⟩:=kZ hk hf he hre (.map (es'.push ⟨.int kd' n,ρ v,cl⟩) (cl+1)) (ar tt es.size (ρA v)) (fun j=>by
     simp only [fu,Array.map_push]
     unfold ar
     split
     ·rename_i hj; subst hj
      have:((es'.map fun e=>e.val).push (ρ v)).getD es.size undef=ρ v:=by
       rw [Array.getD_eq_getD_getElem?,Array.getElem?_push,Array.size_map,if_pos hsz.symm]; rfl
      rw [this]; exact hr v
     ·rename_i hj
      have:((es'.map fun e=>e.val).push (ρ v)).getD j undef=(es'.map fun e=>e.val).getD j undef:=by
       simp only [Array.getD_eq_getD_getElem?,Array.getElem?_push,Array.size_map,hsz,if_neg hj]
      rw [this]
      exact hv j) (fun j=>by
     unfold ar; split
     ·exact hclo
     ·exact hcl j) (oA := .map (es.push ⟨.int kd' n,undef,cl⟩) (cl+1)) (by
     simp only [kj]
     exact ⟨_,rfl,by simp [hes]⟩)
    refine ⟨undef,.any,_,c.obj e.block (.map (es'.push ⟨.int kd' n,ρ v,cl⟩) (cl+1)),.inr ⟨?_,rfl⟩,hK,by simp only [Rv],q1,q2,fun j hj hfj=>?_⟩
    ·have hset:(setObj e.block (.map (es'.push ⟨.int kd' n,ρ v,cl⟩) (cl+1))).run P c.w = .ok () (c.obj e.block (.map (es'.push ⟨.int kd' n,ρ v,cl⟩) (cl+1))).w:=by
      simp only [setObj,Sem.run,hobj]; rfl
     simp only [execOp,Instr.mapUpdate,hml,hkk,Sem.run_bind,run_underlying hty,Result.andThen_ok,hget,lj hky _ _ n,hfind,Option.map_none,hset,Sem.run_pure]
    ·rw [ac _ _ _ (fun h=>by subst h; rw [hf] at hfj; cases hfj)]; exact hfj
   ·exact h.elim
  ·exact h.elim
 case range t x =>
  simp only [i9] at h
  split at h
  ·rename_i ti s ht hxa
   split at h
   ·rename_i hk1
    obtain ⟨d,i,z,hd,_,_,_,_,hk0,_⟩:=ao ht
    rw [hk0] at hk1; have:=h_ hk1; subst this
    have hx:=hr x
    rw [hxa] at hx; simp only [Rv] at hx
    refine ⟨.pointer (some ⟨c.w.heap.size,0,none⟩),_,_,c.more id (.stringIter s 0) ⟨true,c.w.heap.size,0,0,0⟩,.inl ?_,h,oM c id 0 _ _,sv hk hid (.stringIter s 0) (fun _ => .any) (fun _=>by simp only [Rv]) (fun _=>by simp only [clo]),Stp.more hk hid _ _ _,fun j hj hfj=>by rw [ac _ _ _ hj]; exact hfj⟩
    simp only [execOp,Instr.range,Sem.run_bind,run_underlying hd,hx,Result.andThen_ok,Sem.run_pure,run_newObj]
    rfl
   ·exact h.elim
  ·exact h.elim
 case next it b =>
  simp only [i9] at h
  split at h
  ·rename_i i hxa
   split at h
   ·rename_i s p _ hf
    obtain ⟨rfl,h⟩:=h
    have hx:=hr it
    rw [hxa] at hx; simp only [Rv] at hx
    obtain ⟨hU,b,o,hxv,hall⟩:=hx
    obtain ⟨e,oo,he,hre,hsz0,hb0,hS,hobj,_⟩:=hk.obj i _ _ hf
    simp only [kj] at hS; subst hS
    obtain ⟨_,rfl,rfl⟩:=hall e he
    rw [hsz0,hb0] at hxv
    simp only [Nat.zero_mul,Nat.add_zero] at hxv
    have hget:(getObj e.block).run P c.w = .ok (.stringIter s p) c.w:=by
     simp only [getObj,Sem.run,hobj]
    split at h
    ·rename_i hlt
     obtain ⟨q1,q2⟩:=kZ hk hf he hre (.stringIter s (p+(Utf8.decode s p).2)) (fun _ => .any) (fun _=>by simp only [Rv]) (fun _=>by simp only [clo])
     refine ⟨.tuple #[.bool true,goInt p,.int .i32 (Utf8.decode s p).1],_,_,c.obj e.block (.stringIter s (p+(Utf8.decode s p).2)),.inl ?_,h,?_,q1,q2,fun j hj hfj=>?_⟩
     ·simp only [execOp,Instr.next,hxv,Sem.run_bind,hget,Result.andThen_ok,hlt,if_true]
      have hset:(setObj e.block (.stringIter s (p+(Utf8.decode s p).2))).run P c.w = .ok () (c.obj e.block (.stringIter s (p+(Utf8.decode s p).2))).w:=by
       simp only [setObj,Sem.run,hobj]; rfl
      rw [show (Utf8.decode s p)=((Utf8.decode s p).1,(Utf8.decode s p).2) from rfl]
      simp only [Sem.run_bind,hset,Result.andThen_ok,Sem.run_pure]
     ·simp only [Rv]
      refine ⟨_,rfl,?_⟩
      simp only [Rl,Rv]
      exact ⟨_,_,rfl,rfl,_,_,rfl,rfl,_,_,rfl,rfl,rfl⟩
     ·rw [ac _ _ _ (fun h=>by subst h; rw [hf] at hfj; cases hfj)]; exact hfj
    ·rename_i hlt
     refine ⟨.tuple #[.bool false],_,_,c,.inl ?_,h,?_,hk,Stp.refl c,fun j _ hfj=>hfj⟩
     ·simp only [execOp,Instr.next,hxv,Sem.run_bind,hget,Result.andThen_ok,hlt,if_false,Sem.run_pure]
     ·simp only [Rv]
      refine ⟨_,rfl,?_⟩
      simp only [Rl,Rv]
      exact ⟨_,_,rfl,rfl,rfl⟩
   ·exact h.elim
  ·exact h.elim
 case call cl =>
  obtain ⟨callee,args,argTypes⟩:=cl
  simp only [i9] at h
  split at h
  ·rename_i t t' x y hat hal
   have ha:args = #[x,y]:=by have:=congrArg List.toArray hal; simpa using this
   have hat':argTypes = #[t,t']:=by have:=congrArg List.toArray hat; simpa using this
   subst ha; subst hat'
   split at h
   ·rename_i ti ti' ht ht'
    split at h
    ·rename_i e e' hke hke'
     obtain ⟨d,i,z,hd,_,_,_,_,hk0,_⟩:=ao ht
     rw [hk0] at hke; have:=cG hke; subst this
     obtain ⟨d',i',z',hd',_,_,_,_,hk0',_⟩:=ao ht'
     rw [hk0'] at hke'; have:=cG hke'; subst this
     have hex:∀r w',(Builtin.append_ #[t,t'] ty #[ρ x,ρ y]).run P c.w = .ok r w'→(execOp ρ ⟨dst,.call ⟨.builtin .append,#[x,y],#[t,t']⟩,ty,pos,after,guard⟩).run P c.w = .ok (.value r) w':=fun r w' hrun=>by
      simp only [execOp,resolve,Sem.run_bind,Sem.run_pure,Result.andThen_ok,invoke,builtin,List.map_toArray,List.map_cons,List.map_nil,hrun]
     split at h
     ·rename_i te hte
      have hx:=hr x
      split at h
      ·rename_i sz i off len new hxa hn
       rw [hxa] at hx
       split at h
       ·rename_i sz' L hf
        obtain ⟨⟨g1,g2,g3,g4⟩,g5,g6,g7,hK⟩:=h
        obtain ⟨r,c',hrun,q1,q2,q3⟩:=vA (ty:=ty) hk hid hd hd' hte hf hx (hr y) hn g5 g1 g2 g3 g4 g6 g7
        refine ⟨r,_,_,c',.inl (hex r _ hrun),hK,q1,q2,q3,fun j hj hfj=>?_⟩
        rw [ac _ _ _ hj,ac _ _ _ (fun h=>by subst h; rw [hf] at hfj; cases hfj)]; exact hfj
       ·exact h.elim
      ·rename_i sz tight l new hxa hn
       rw [hxa] at hx
       obtain ⟨g0,⟨g1,g2,g3,g4,g8⟩,g5,g7,hK⟩:=h
       subst g0
       obtain ⟨r,c',hrun,q1,q2,q3⟩:=yZ (ty:=ty) hk hid hd hd' hte hx (hr y) hn g5 g1 g2 g3 g4 g8 g7
       refine ⟨r,_,_,c',.inl (hex r _ hrun),hK,q1,q2,q3,fun j hj hfj=>?_⟩
       rw [ac _ _ _ hj]; exact hfj
      ·exact h.elim
     ·exact h.elim
    ·exact h.elim
   ·exact h.elim
  ·exact h.elim
def bZ (P:Program) (g:FuncId) (vs:Array Value) (w:World) (Post:Value→World→Prop):Prop :=
 match (callFunc g vs).run P w with
 | .ok (.value v) w'=>Post v w'
 | .ok (.enter h args) w'=>Calls P h args w' fun e w''=>∃v,e = .returned v∧Post v w''
 | _=>False
theorem bZ.mono {P:Program} {g:FuncId} {vs:Array Value} {w:World} {Post Post':Value→World→Prop} (h:bZ P g vs w Post) (hp:∀v w',Post v w'→Post' v w'):bZ P g vs w Post':=by
 unfold bZ at *
 split at h
 ·exact hp _ _ h
 ·exact h.mono fun e w'' ⟨v,he,hv⟩=>⟨v,he,hp _ _ hv⟩
 ·exact h.elim
def CA (P:Program) (g:FuncId) (args:List AV) (f:Nat→BS) (n:Nat) (K:AV→(Nat→BS)→Nat→Prop):Prop :=
 ∀(c:Cx) (vs:List Value),HOk c f→(∀j,f j = .fresh↔n≤j)→Rl c args vs→bZ P g vs.toArray c.w fun v w' =>
  ∃c' r f' n',c'.w=w'∧K r f' n'∧HOk c' f'∧Rv c' r v∧Stp c c'∧n≤n'∧∀j,f' j = .fresh↔n'≤j
def YA (P:Program) (id:Nat) (args:List AV) (f:Nat→BS) (n:Nat) (K:AV→(Nat→BS)→Nat→Prop):Prop :=
 ∀(c:Cx) (vs:List Value) (l:Nat),HOk c f→(∀j,f j = .fresh↔n≤j)→Rl c args vs→c.U id→(∀e,c.mu id=some e→e.real=true∧l=e.block) →
  ∃fn tmps assign body,(Instr.yield l vs.toArray).run P c.w = .ok (.round l fn tmps assign body) c.w∧RoundIn Fence.wide 0 P l fn tmps assign body c.w fun e w'=>∃v,e = .returned v ∧
   ∃c' r f' n',c'.w=w'∧K r f' n'∧HOk c' f'∧Rv c' r v∧Stp c c'∧n≤n'∧∀j,f' j = .fresh↔n'≤j
def ab (P:Program) (g:FuncId) (args:List AV) (r:AV):Prop :=
 ro r∧∀(c:Cx) (vs:List Value),(∀id,c.mu id=none)→(∀id,¬c.U id)→Rl c args vs→bZ P g vs.toArray c.w fun v w'=>∃c',c'.w=w'∧Stp c c'∧Rv c' r v
theorem CA.mono {P:Program} {g:FuncId} {args:List AV} {f:Nat→BS} {n:Nat} {K K':AV→(Nat→BS)→Nat→Prop} (h:CA P g args f n K) (hK:∀r f' n',K r f' n'→K' r f' n'):CA P g args f n K' :=
 fun c vs h1 h2 h3=>(h c vs h1 h2 h3).mono fun v w' ⟨c',r,f',n',q1,q2,q3⟩=>⟨c',r,f',n',q1,hK _ _ _ q2,q3⟩
mutual
theorem yL (f:Nat→BS):∀a:AV,ro a→aM f a=a
 | .any,_=>rfl
 | .bool _,_=>rfl
 | .int _ _,_=>rfl
 | .str _,_=>rfl
 | .agg cs,h=>by simp only [aM]; rw [viewL_ro f cs (by simpa only [ro] using h)]
 | .tup cs,h=>by simp only [aM]; rw [viewL_ro f cs (by simpa only [ro] using h)]
 | .sl _ _ _,_=>rfl
 | .own _ _ _ _,h=>by simp only [ro] at h
 | .ptr _ _ _,h=>by simp only [ro] at h
 | .rp _,_=>rfl
 | .fn _ fs cap,h=>by
  simp only [ro] at h
  simp only [aM]; rw [viewL_ro f fs h.1,viewL_ro f cap h.2]
 | .yld _,_=>rfl
 | .mp _,_=>rfl
 | .nilp,_=>rfl
theorem viewL_ro (f:Nat→BS):∀l:List AV,roL l→viewL f l=l
 | [],_=>rfl
 | a::l,h=>by
  simp only [roL] at h
  simp only [viewL]; rw [yL f a h.1,viewL_ro f l h.2]
end
mutual
theorem xR (f:Nat→BS):∀a:AV,ro a→aE f a
 | .any,_=>by simp only [aE]
 | .bool _,_=>by simp only [aE]
 | .int _ _,_=>by simp only [aE]
 | .str _,_=>by simp only [aE]
 | .agg cs,h=>by simp only [aE]; exact fitsL_ro f cs (by simpa only [ro] using h)
 | .tup cs,h=>by simp only [aE]; exact fitsL_ro f cs (by simpa only [ro] using h)
 | .sl _ _ l,h=>by simp only [aE]; exact fitsL_ro f l (by simpa only [ro] using h)
 | .own _ _ _ _,h=>by simp only [ro] at h
 | .ptr _ _ _,h=>by simp only [ro] at h
 | .rp cs,h=>by simp only [aE]; exact fitsL_ro f cs (by simpa only [ro] using h)
 | .fn _ fs cap,h=>by
  simp only [ro] at h
  simp only [aE]; exact ⟨fitsL_ro f fs h.1,fitsL_ro f cap h.2⟩
 | .yld _,_=>by simp only [aE]
 | .mp _,_=>by simp only [aE]
 | .nilp,_=>by simp only [aE]
theorem fitsL_ro (f:Nat→BS):∀l:List AV,roL l→fitsL f l
 | [],_=>by simp only [fitsL]
 | a::l,h=>by
  simp only [roL] at h
  simp only [fitsL]; exact ⟨xR f a h.1,fitsL_ro f l h.2⟩
end
theorem mn {P:Program} {g:FuncId} {args:List AV} {r:AV} {c:Cx} {f:Nat→BS} (hk:HOk c f) {vs:List Value} (hl:Rl c args vs) (hp:ab P g (viewL f args) r) (hro:roL (viewL f args)) (hfit:fitsL f args) (hor:roL args∨flat r) :
 bZ P g vs.toArray c.w fun v w'=>∃c',c'.w=w'∧HOk c' f∧Rv c' r v∧Stp c c':=by
 have fin:∀(c0 c1:Cx) (v:Value),c0.w=c.w→(∀id,c0.mu id=none)→Stp c0 c1→(∀c':Cx,c'.w=c1.w→(∀b,b<c1.w.heap.size→c'.F b→c.F b∧b<c.w.heap.size)→Rv c' r v) →
  ∃c',c'.w=c1.w∧HOk c' f∧Rv c' r v∧Stp c c':=by
  intro c0 c1 v hw0 hm0 hs hr
  have hkeep:∀b,b<c.w.heap.size→c1.w.heap[b]?=c.w.heap[b]?:=fun b hb=>by
   have:=hs.keep b (by rw [hw0]; exact hb) (fun id e he=>by rw [hm0] at he; cases he)
   rw [this,hw0]
  have hst:Stp c { w:=c1.w,mu:=c.mu,U:=c.U,F:=fun b=>c.F b∧b<c.w.heap.size }:=by
   refine ⟨hs.os.trans (by rw [hw0]),hs.tape.trans (by rw [hw0]),hs.output.trans (by rw [hw0]),Nat.le_trans (Nat.le_of_eq (by rw [hw0])) hs.size,fun b hb _=>hkeep b hb,fun _ h=>h,fun _ _ => .inl rfl,fun id e h hr => .inr ⟨id,e,h,hr,rfl⟩,fun b hb=>⟨fun h=>h.1,fun _ h=>⟨h,hb⟩⟩⟩
  refine ⟨{ w:=c1.w,mu:=c.mu,U:=c.U,F:=fun b=>c.F b∧b<c.w.heap.size },rfl,?_,hr _ rfl (fun b _ h=>h),hst⟩
  exact hk.of_step hst (fun _=>Iff.rfl) rfl (fun id e he hr=>⟨hk.shut id e he hr,hk.lt he hr⟩) (fun id e he hr=>hkeep _ (hk.lt he hr))
 by_cases hra:roL args
 ·have hv:=viewL_ro f args hra
  rw [hv] at hp
  have hl0:Rl (c.bare c.F) args vs:=Rl.ro (c:=c) (c':=c.bare c.F) rfl (fun _ _ h=>h) args vs hra hl
  refine (hp.2 (c.bare c.F) vs (fun _=>rfl) (fun _ h=>h) hl0).mono fun v w' ⟨c1,hw,hs,hrv⟩=>?_
  obtain ⟨c',q1,q2⟩:=fin (c.bare c.F) c1 v rfl (fun _=>rfl) hs (fun c' hw' hF=>Rv.ro (c:=c1) hw' (fun b hb h=>by
   have:=hF b hb h
   exact (hs.F b this.2).2 (fun _ _ he=>by cases he) this.1) r v hp.1 hrv)
  exact ⟨c',q1.trans hw,q2⟩
 ·have hfl:=hor.resolve_left hra
  have hl0:Rl (c.bare fun _=>False) (viewL f args) vs:=viewL_rv hk (fun _ _ h=>h.elim) (fun _ _ _ _ h=>h) args vs hfit hro hl
  refine (hp.2 _ vs (fun _=>rfl) (fun _ h=>h) hl0).mono fun v w' ⟨c1,hw,hs,hrv⟩=>?_
  obtain ⟨c',q1,q2⟩:=fin (c.bare fun _=>False) c1 v rfl (fun _=>rfl) hs (fun c' _ _=>Rv.flat r v hfl hrv)
  exact ⟨c',q1.trans hw,q2⟩
def CV (P:Program) (g:FuncId) (args:List AV) (f:Nat→BS) (r:AV):Prop :=
 ∀f':Nat→BS,(∀j,f j ≠ .fresh→f' j=f j)→∀(c:Cx) (vs:List Value),HOk c f'→Rl c args vs→bZ P g vs.toArray c.w fun v w' =>
  ∃c',c'.w=w'∧HOk c' f'∧Rv c' r v∧Stp c c'
theorem CV.grow {P:Program} {g:FuncId} {args:List AV} {f:Nat→BS} {r:AV} (h:CV P g args f r) {j:Nat} {b:BS} (hj:f j = .fresh):CV P g args (ar f j b) r:=by
 intro f' hf'
 refine h f' fun k hk=>?_
 have hne:k≠j:=fun he=>hk (he▸hj)
 have:=hf' k (by rw [ac _ _ _ hne]; exact hk)
 rw [this,ac _ _ _ hne]
mutual
theorem AT {f f':Nat→BS} (hj:∀j,f j ≠ .fresh→f' j=f j):∀a:AV,aE f a→aM f' a=aM f a∧aE f' a
 | .any,_=>⟨rfl,by simp only [aE]⟩
 | .bool _,_=>⟨rfl,by simp only [aE]⟩
 | .int _ _,_=>⟨rfl,by simp only [aE]⟩
 | .str _,_=>⟨rfl,by simp only [aE]⟩
 | .agg cs,h=>by
  have:=viewL_more hj cs (by simpa only [aE] using h)
  exact ⟨by simp only [aM,this.1],by simp only [aE]; exact this.2⟩
 | .tup cs,h=>by
  have:=viewL_more hj cs (by simpa only [aE] using h)
  exact ⟨by simp only [aM,this.1],by simp only [aE]; exact this.2⟩
 | .sl _ _ l,h=>by
  have:=viewL_more hj l (by simpa only [aE] using h)
  exact ⟨rfl,by simp only [aE]; exact this.2⟩
 | .own sz id off len,h=>by
  have hne:f' id=f id:=hj id fun he=>by simp only [aE,he] at h
  constructor
  ·simp only [aM,hne]
  ·simp only [aE,hne] at h ⊢; exact h
 | .ptr id idx off,h=>by
  have hne:f' id=f id:=hj id fun he=>by simp only [aE,he] at h
  constructor
  ·simp only [aM,hne]
  ·simp only [aE,hne] at h ⊢; exact h
 | .rp cs,h=>by
  have:=viewL_more hj cs (by simpa only [aE] using h)
  exact ⟨rfl,by simp only [aE]; exact this.2⟩
 | .fn g fs cap,h=>by
  simp only [aE] at h
  have h1:=viewL_more hj fs h.1
  have h2:=viewL_more hj cap h.2
  exact ⟨by simp only [aM,h1.1,h2.1],by simp only [aE]; exact ⟨h1.2,h2.2⟩⟩
 | .yld _,_=>⟨rfl,by simp only [aE]⟩
 | .mp _,_=>⟨rfl,by simp only [aE]⟩
 | .nilp,_=>⟨rfl,by simp only [aE]⟩
theorem viewL_more {f f':Nat→BS} (hj:∀j,f j ≠ .fresh→f' j=f j):∀l:List AV,fitsL f l→viewL f' l=viewL f l∧fitsL f' l
 | [],_=>⟨rfl,by simp only [fitsL]⟩
 | a::l,h=>by
  simp only [fitsL] at h
  have h1:=AT hj a h.1
  have h2:=viewL_more hj l h.2
  exact ⟨by simp only [viewL,h1.1,h2.1],by simp only [fitsL]; exact ⟨h1.2,h2.2⟩⟩
end
theorem CV.of_pure {P:Program} {g:FuncId} {args:List AV} {f:Nat→BS} {r:AV} (hp:ab P g (viewL f args) r) (hro:roL (viewL f args)) (hfit:fitsL f args) (hor:roL args∨flat r):CV P g args f r:=by
 intro f' hf' c vs hk hl
 obtain ⟨g1,g2⟩:=viewL_more hf' args hfit
 exact mn hk hl (by rw [g1]; exact hp) (by rw [g1]; exact hro) g2 hor
theorem CA.of_pure {P:Program} {g:FuncId} {args args':List AV} {r:AV} {f:Nat→BS} {n:Nat} {K:AV→(Nat→BS)→Nat→Prop} (hp:ab P g args' r) (hv:viewL f args=args') (hro:roL args') (hfit:fitsL f args) (hor:roL args∨flat r)
 (hK:K r f n):CA P g args f n K:=by
 subst hv
 exact fun c vs h1 h2 h3=>(mn h1 h3 hp hro hfit hor).mono fun v w' ⟨c',q1,q2,q3,q4⟩=>⟨c',r,f,n,q1,hK,q2,q3,q4,Nat.le_refl _,h2⟩
theorem CA.of_pure_ro {P:Program} {g:FuncId} {args:List AV} {r:AV} {f:Nat→BS} {n:Nat} {K:AV→(Nat→BS)→Nat→Prop} (hp:ab P g args r) (hro:roL args) (hK:K r f n):CA P g args f n K:=by
 refine fun c vs h1 h2 h3=>?_
 have hv:=viewL_ro f args hro
 have hf:=fitsL_ro f args hro
 exact (mn h1 h3 (by rw [hv]; exact hp) (by rw [hv]; exact hro) hf (.inl hro)).mono fun v w' ⟨c',q1,q2,q3,q4⟩=>⟨c',r,f,n,q1,hK,q2,q3,q4,Nat.le_refl _,h2⟩
def d_ (ρ:Operand→AV) (c:Call):Option (FuncId×List AV) :=
 match c.callee with
 | .value x=>match ρ x with
  | .fn (.func g) fs cap=>some (g,fs++c.args.toList.map ρ++cap)
  | _=>none
 | _=>none
def fz (h:Nat→Bool) (f:Nat→BS):Nat→BS:=fun m=>bif h m then .dead else f m
def tj (g g':Nat→BS):Prop:=∀m,g m=g' m∨g m = .dead∨g m = .fresh
theorem tj.fz {h:Nat→Bool} {f:Nat→BS}:tj (fz h f) f:=fun m=>by
 unfold Go.Proofs.YtdnmfaljidjijaaGreat.fz
 cases h m
 ·exact .inl rfl
 ·exact .inr (.inl rfl)
theorem tj.map {g g':Nat→BS} (s:tj g g') {m:Nat} {o:Obj} {t:Nat→AV} (h:g m = .obj o t):g' m = .obj o t:=by
 rcases s m with h1|h1|h1
 ·rw [←h1]; exact h
 ·rw [h] at h1; cases h1
 ·rw [h] at h1; cases h1
theorem tj.live {g g':Nat→BS} (s:tj g g') {m sz:Nat} {l:List AV} (h:g m = .live sz l):g' m = .live sz l:=by
 rcases s m with h1|h1|h1
 ·rw [←h1]; exact h
 ·rw [h] at h1; cases h1
 ·rw [h] at h1; cases h1
theorem uM {P:Program} {g g':Nat→BS} {ρ:Operand→AV} {op:Op} {x:Prop×AV} (s:tj g g') (h1:aS P g ρ op=some x):aS P g' ρ op=some x:=by
 cases op<;>(try (simp only [aS] at h1; cases h1; done))
 case lookup t m k ok =>
  cases ok with
  | true=>simp [aS] at h1
  | false =>
   simp only [aS,cond_false] at h1 ⊢
   unfold qx at h1 ⊢
   split at h1
   ·rename_i i _ _ _ _ _
    cases hf:g i with
    | obj o t=>rw [hf] at h1; rw [s.map hf]; exact h1
    | fresh=>rw [hf] at h1; cases h1
    | dead=>rw [hf] at h1; cases h1
    | live sz l=>rw [hf] at h1; cases h1
   ·cases h1
 ·rename_i t a
  simp only [aS] at h1 ⊢
  split at h1
  ·exact h1
  ·rename_i ti i idx off ht hxa
   split at h1
   ·rename_i sz l hf
    simp only [s.live hf]; exact h1
   ·cases h1
  ·cases h1
 ·rename_i a b' y
  simp only [aS] at h1 ⊢
  cases hx:ρ y<;>rw [hx] at h1<;>simp only [jK] at h1 ⊢ <;> try exact h1
  rename_i sz i off len
  simp only [b_,cX] at h1 ⊢
  cases hf:g i with
  | live sz' l=>rw [hf] at h1; simp only [s.live hf]; exact h1
  | fresh=>rw [hf] at h1; simp only [eN] at h1; cases h1
  | dead=>rw [hf] at h1; simp only [eN] at h1; cases h1
  | obj o t=>rw [hf] at h1; simp only [eN] at h1; cases h1
theorem Hx {P:Program} {hd:Nat→Bool} {f:Nat→BS} {ρ:Operand→AV} {op:Op} {x:Prop×AV} (h:aS P (fz hd f) ρ op=some x):aS P f ρ op=some x:=uM tj.fz h
def AZ (ρ:Operand→AV) (c:Call):Option Nat :=
 match c.callee with
 | .value x=>match ρ x with
  | .yld id=>some id
  | _=>none
 | _=>none
def kX (q:Bool) (n:Nat):Nat:=bif q then n else n+1
def CE (P:Program) (g:FuncId) (args:List AV) (f:Nat→BS) (R:AV→(Nat→BS)→Prop):Prop :=
 ∀(c:Cx) (vs:List Value),HOk c f→Rl c args vs→bZ P g vs.toArray c.w fun v w' =>
  ∃c' r f',c'.w=w'∧R r f'∧HOk c' f'∧Rv c' r v∧Stp c c'∧∀j,f' j = .fresh↔f j = .fresh
theorem CE.mono {P:Program} {g:FuncId} {args:List AV} {f:Nat→BS} {R R':AV→(Nat→BS)→Prop} (h:CE P g args f R) (hR:∀r f',(∀j,f' j = .fresh↔f j = .fresh)→R r f'→R' r f'):CE P g args f R' :=
 fun c vs h1 h2=>(h c vs h1 h2).mono fun v w' ⟨c',r,f',q1,q2,q3,q4,q5,q6⟩=>⟨c',r,f',q1,hR _ _ q6 q2,q3,q4,q5,q6⟩
def fY (P:Program) (z q bq:Bool) (hd:Nat→Bool) (id n:Nat) (op:Op) (ρ:Operand→AV) (f:Nat→BS) (K:AV→(Nat→BS)→Nat→Prop):Prop :=
 match aH op with
 | .v=>match iL P ρ op with
  | some (s,v)=>s∧K v f n
  | none=>False
 | .r=>match aS P (fz hd f) ρ op with
  | some (s,v)=>s∧K v f n
  | none=>False
 | .g=>match pH P id ρ op with
  | some (s,v,b)=>s∧K v (ar f id b) (kX q n)
  | none=>False
 | .l=>i9 P id f ρ (fun v f'=>((z && q)=true→∀m,hd m=false→f' m=f m)∧K v f' (bif gX op then kX q n else n)) op
 | .c=>match op with
  | .call c=>match d_ ρ c with
   | some (g,args)=>if q then (∃r,CV P g args f r∧K r f n)∨(bq=true∧CE P g args f fun r f'=>K r f' n) else CA P g args f n K
   | none=>if q then False else match AZ ρ c with
    | some id'=>YA P id' (c.args.toList.map ρ) f n K
    | none=>False
  | _=>False
 | .n=>if q then False else KL P ρ (fun v=>K v f n) op∨HV P f ρ (fun v f'=>K v f' n) op
theorem vD {P:Program} {c:Cx} {ρA:Operand→AV} {ρ:Operand→Value} (hr:∀x,Rv c (ρA x) (ρ x)) {o:Oper} {cl:Call} (ho:o.op = .call cl) {g:FuncId} {args:List AV} (h:d_ ρA cl=some (g,args)) :
 ∃vs:List Value,Rl c args vs∧(execOp ρ o).run P c.w=(callFunc g vs.toArray).run P c.w:=by
 obtain ⟨dst,op,ty,pos,after,guard⟩:=o
 simp only at ho
 subst ho
 obtain ⟨callee,as,ats⟩:=cl
 simp only [d_] at h
 split at h
 ·rename_i x
  split at h
  ·rename_i g' fs cap hxa
   simp only [Option.some.injEq,Prod.mk.injEq] at h
   obtain ⟨rfl,rfl⟩:=h
   have hx:=hr x
   rw [hxa] at hx
   simp only [Rv] at hx
   obtain ⟨a,b,hxv,h1,h2⟩:=hx
   refine ⟨a.toList++as.toList.map ρ++b.toList,(h1.append (Rl.map hr as.toList)).append h2,?_⟩
   simp only [execOp,resolve,Sem.run_bind,hxv,Deferred.ofValue,Sem.run_pure,Result.andThen_ok,invoke]
   congr 2
   apply Array.ext'
   simp
  ·cases h
 ·cases h
theorem Fx {P:Program} {c:Cx} {ρA:Operand→AV} {ρ:Operand→Value} (hr:∀x,Rv c (ρA x) (ρ x)) {o:Oper} {cl:Call} (ho:o.op = .call cl) {id:Nat} (h:AZ ρA cl=some id) :
 ∃l,c.U id∧(∀e,c.mu id=some e→e.real=true∧l=e.block)∧(execOp ρ o).run P c.w=(Instr.yield l (cl.args.toList.map ρ).toArray).run P c.w:=by
 obtain ⟨dst,op,ty,pos,after,guard⟩:=o
 simp only at ho
 subst ho
 obtain ⟨callee,as,ats⟩:=cl
 simp only [AZ] at h
 split at h
 ·rename_i x
  split at h
  ·rename_i id' hxa
   simp only [Option.some.injEq] at h
   subst h
   have hx:=hr x
   rw [hxa] at hx
   simp only [Rv] at hx
   obtain ⟨hU,l,hxv,h1⟩:=hx
   refine ⟨l,hU,h1,?_⟩
   simp only [execOp,resolve,Sem.run_bind,hxv,Deferred.ofValue,Sem.run_pure,Result.andThen_ok,invoke]
   congr 2
   apply Array.ext'
   simp
  ·cases h
 ·cases h
def Fr (r:Option Nat):Fence:={ Fence.wide with round:=r }
theorem nP {r:Option Nat} {n:Nat} {P:Program} {g:FuncId} {args:Array Value} {w:World} {R:Ending→World→Prop} (h:Calls P g args w R):CallsIn (Fr r) n P g args w R:=callsIn_wide.2 h
theorem xe {r:Option Nat} {n:Nat} {P:Program} {l:Nat} {f:FuncId} {tmps:Array Value} {assign body:Code} {w:World} {R:Ending→World→Prop} (h:RoundIn Fence.wide n P l f tmps assign body w R):RoundIn (Fr r) n P l f tmps assign body w R:=h
theorem oq {r:Option Nat} {n:Nat}:(Fr r).depth.isSome=true→1≤n:=fun h=>by cases h
theorem G8 {c:Cx} {a:AV} {v:Value} {n:Nat} (h:lenOf a=some n) (hr:Rv c a v):∃ad cap,v = .slice ad n cap∧(ad=none→n=0):=by
 cases a<;>simp only [lenOf] at h<;>try (cases h; done)
 case sl sz tg l =>
  injection h with h; subst h
  simp only [Rv] at hr
  obtain ⟨ad,cap,rfl,h1,h2,h3⟩:=hr
  refine ⟨ad,cap,rfl,fun hn=>?_⟩
  rcases h3 with h3|⟨b,o,h3,_⟩
  ·rw [h3]; rfl
  ·rw [h3] at hn; cases hn
 case own sz id off len =>
  injection h with h; subst h
  simp only [Rv] at hr
  obtain ⟨_,_,ad,cap,rfl,h1,h2⟩:=hr
  refine ⟨ad,cap,rfl,fun hn=>?_⟩
  rcases h2 with h2|⟨b,o,h2,_⟩
  ·omega
  ·rw [h2] at hn; cases hn
theorem qZ {P:Program} {t e:TypeId} (ht:P.underlying t=some (.slice e)) (ad:Option Addr) (n cap:Nat) (w:World):(Op.equal t (.slice ad n cap) (.slice none 0 0)).run P w = .ok ad.isNone w:=by
 have hm:Op.maxDepth=9999+1:=rfl
 unfold Op.equal
 rw [hm]
 generalize 9999=d
 rw [Op.equalIn]
 simp only [Sem.run_bind,run_underlying ht,Result.andThen_ok]
 cases ad<;>rfl
theorem Aq {P:Program} {c:Cx} {ρA:Operand→AV} {a:Act} {o:Oper} {K:AV→Prop} (h:KL P ρA K o.op) (hc:aH o.op = .n) (hr:∀x,Rv c (ρA x) (a.eval x)):∃b,(execOp a.eval o).run P c.w = .ok (.value (.bool b)) c.w∧K (.bool b):=by
 obtain ⟨dst,op,ty,pos,after,guard⟩:=o
 simp only at h hc
 unfold aH at hc
 split at hc<;>try (cases hc; done)
 ·split at hc<;>try (cases hc; done)
  simp only [KL] at h
 ·rename_i op t x t'
  simp only [KL] at h
  split at h
  ·rename_i len hs hl
   obtain ⟨ad,cap,hv,hnil⟩:=G8 hl (hr x)
   unfold xn at hs
   split at hs
   ·rename_i ti hti
    split at hs
    ·rename_i e hk
     obtain ⟨d,i,z,hd,_,_,_,_,hk0,_⟩:=ao hti
     rw [hk0] at hk
     have:=cG hk; subst this
     have hg:(eqGuard op t x (.const (.slice none 0 0)) (.slice ad len cap) (.slice none 0 0)).run P c.w = .ok () c.w:=by
      exact iu c.w ⟨by simp,by simp⟩
     have hev:a.eval (.const (.slice none 0 0)) = .slice none 0 0:=rfl
     unfold wI at h
     split at h
     ·refine ⟨ad.isNone,?_,?_⟩
      ·simp only [execOp,hev,Sem.run_bind,hv,hg,Result.andThen_ok,binOp,qZ hd,Sem.run_pure]
      ·cases had:ad with
       | none=>exact h.1 (hnil had)
       | some _=>exact h.2
     ·refine ⟨!ad.isNone,?_,?_⟩
      ·simp only [execOp,hev,Sem.run_bind,hv,hg,Result.andThen_ok,binOp,qZ hd,Sem.run_pure]
      ·cases had:ad with
       | none=>exact h.1 (hnil had)
       | some _=>exact h.2
     ·exact h.elim
    ·cases hs
   ·cases hs
  ·exact h.elim
theorem jn {P:Program} {z:Bool} {q bq:Bool} {hd:Nat→Bool} {rr:Option Nat} {id n:Nat} {o:Oper} {ρA:Operand→AV} {f:Nat→BS} {K:AV→(Nat→BS)→Nat→Prop} (h:fY P z q bq hd id n o.op ρA f K) {c:Cx} {a:Act} (hk:HOk c f) (hfr:∀j,n≤j→f j = .fresh) (hid:f id = .fresh)
 (hq0:q=false→id=n∧∀j,f j = .fresh↔n≤j) (hq1:q=true→id<n) (hr:∀x,Rv c (ρA x) (a.eval x)) {next:Act→World→Prop} {Q:Exit→Act→World→Prop}
 (hn:∀v c' r f' n',K v f' n'→HOk c' f'→Stp c c'→Rv c' v r→n≤n'→(q=true→n'=n∧∀j,j≠id→f j = .fresh→f' j = .fresh)→(q=false→∀j,f' j = .fresh↔n'≤j)→next (a.put o.dst r) c'.w) :
 o.wpIn (Fr rr) 0 P a c.w next Q:=by
 have hnd:∀c,o.op ≠ .defer c:=by
  intro c hc
  rw [hc] at h
  simp only [fY,aH,i9] at h
 refine ⟨fun _ _=>trivial,?_⟩
 rw [Oper.semAt_eq _ _ _ hnd]
 unfold fY at h
 split at h
 ·
  split at h
  ·rename_i s v hv
   obtain ⟨r,h1,h2⟩:=AW hr hv h.1
   rw [h1,Oper.uponIn_value]
   exact hn v c r f n h.2 hk (Stp.refl c) h2 (Nat.le_refl _) (fun _=>⟨rfl,fun _ _ h=>h⟩) (fun hq=>(hq0 hq).2)
  ·exact h.elim
 ·split at h
  ·rename_i s v hv
   obtain ⟨r,h1,h2⟩:=qV hk hr (Hx hv) h.1
   rw [h1,Oper.uponIn_value]
   exact hn v c r f n h.2 hk (Stp.refl c) h2 (Nat.le_refl _) (fun _=>⟨rfl,fun _ _ h=>h⟩) (fun hq=>(hq0 hq).2)
  ·exact h.elim
 ·split at h
  ·rename_i s v b hv
   obtain ⟨r,c',h1,h2,h3,h4⟩:=zW hk hid hr hv h.1
   rw [h1,Oper.uponIn_value]
   have hb:b ≠ .fresh:=yc hv
   refine hn v c' r _ _ h.2 h3 h4 h2 (by cases q<;>simp [kX]) (fun hq=>⟨by simp [kX,hq],fun j hj h=>by rw [ac _ _ _ hj]; exact h⟩) (fun hq j=>?_)
   obtain ⟨rfl,hfull⟩:=hq0 hq
   simp only [kX,hq,cond_false]
   by_cases hj:j=id
   ·subst hj; rw [ah]; simp [hb]
   ·rw [ac _ _ _ hj,hfull j]; omega
  ·exact h.elim
 ·obtain ⟨v0,f0,g1,g2,g3,g4⟩:=ju h
  have g4:=g4 hid
  obtain ⟨r,v,f',c',h1,h2,h3,h4,h5,h6⟩:=Al (K:=fun v f'=>v=v0∧f'=f0) (g1 _ ⟨rfl,rfl⟩) hk hid hr
  obtain ⟨rfl,rfl⟩:=h2
  have g2:=g2.2
  have h7:n≤(bif gX o.op then kX q n else n):=by cases gX o.op<;>cases q<;>simp [kX]
  have h8:q=true→(bif gX o.op then kX q n else n)=n∧∀j,j≠id→f j = .fresh→f' j = .fresh:=fun hq=>⟨by cases gX o.op<;>simp [kX,hq],g3⟩
  have h9:q=false→∀j,f' j = .fresh↔(bif gX o.op then kX q n else n)≤j:=by
   intro hq j
   obtain ⟨rfl,hfull⟩:=hq0 hq
   by_cases hj:j=id
   ·subst hj; rw [g4]; cases gX o.op<;>simp [kX,hq]
   ·have hkeep:f' j = .fresh↔f j = .fresh:=by
     constructor
     ·intro hf
      rcases Nat.lt_or_ge j id with hlt|hge
      ·exact absurd hf (fun hf=>by
        have h10:f j ≠ .fresh:=fun h11=>by have:=(hfull j).1 h11; omega
        exact (h4.used j).1 (h5.U j ((hk.used j).2 h10)) hf)
      ·exact (hfull j).2 hge
     ·exact g3 j hj
    rw [hkeep,hfull j]
    cases gX o.op<;>simp only [kX,hq,cond_false,cond_true]<;>omega
  rcases h1 with h1|⟨h1,rfl⟩
  ·rw [h1,Oper.uponIn_value]
   exact hn v c' r f' _ g2 h4 h5 h3 h7 h8 h9
  ·rw [h1,Oper.uponIn_skip]
   exact hn v c' undef f' _ g2 h4 h5 h3 h7 h8 h9
 ·split at h
  ·rename_i cl hop
   split at h
   ·rename_i g args hca
    obtain ⟨vs,h1,h2⟩:=vD (P:=P) hr hop hca
    rw [h2]
    have key:∀Post:Value→World→Prop,bZ P g vs.toArray c.w Post→(∀v w',Post v w'→next (a.put o.dst v) w')→o.uponIn (Fr rr) 0 P a next Q ((callFunc g vs.toArray).run P c.w):=by
     intro Post hc hp
     unfold bZ at hc
     split at hc
     ·rename_i v w' he
      rw [he,Oper.uponIn_value]; exact hp _ _ hc
     ·rename_i g' as w' he
      rw [he,Oper.uponIn_enter]
      exact ⟨oq,nP (hc.mono fun e w'' ⟨v,he,hv⟩=>by subst he; exact hp _ _ hv)⟩
     ·exact hc.elim
    split at h
    ·rename_i hq
     rcases h with ⟨r,g1,g5⟩|⟨_,h⟩
     ·refine key _ (g1 f (fun _ _=>rfl) c vs hk h1) fun v w' ⟨c',q1,q2,q3,q4⟩=>?_
      subst q1
      exact hn r c' v f n g5 q2 q4 q3 (Nat.le_refl _) (fun _=>⟨rfl,fun _ _ h=>h⟩) (fun h=>absurd h (by simp [hq]))
     ·refine key _ (h c vs hk h1) fun v w' ⟨c',r,f',q1,q2,q3,q4,q5,q6⟩=>?_
      subst q1
      exact hn r c' v f' n q2 q3 q5 q4 (Nat.le_refl _) (fun _=>⟨rfl,fun j _ h=>(q6 j).2 h⟩) (fun h=>absurd h (by simp [hq]))
    ·rename_i hq
     have hq':q=false:=by simpa using hq
     refine key _ (h c vs hk (hq0 hq').2 h1) fun v w' ⟨c',r,f',n',q1,q2,q3,q4,q5,q6,q7⟩=>?_
     subst q1
     exact hn r c' v f' n' q2 q3 q5 q4 q6 (fun h=>absurd h (by simp [hq'])) (fun _=>q7)
   ·split at h
    ·exact h.elim
    ·rename_i hq
     have hq':q=false:=by simpa using hq
     split at h
     ·rename_i id' hy
      obtain ⟨l,g1,g2,g3⟩:=Fx (P:=P) hr hop hy
      rw [g3]
      obtain ⟨fn,tmps,assign,body,e1,e2⟩:=h c _ l hk (hq0 hq').2 (Rl.map hr cl.args.toList) g1 g2
      rw [e1,Oper.uponIn_round]
      refine ⟨oq,xe (e2.mono ?_)⟩
      rintro e w' ⟨v,rfl,c',r,f',n',q1,q2,q3,q4,q5,q6,q7⟩
      subst q1
      exact hn r c' v f' n' q2 q3 q5 q4 q6 (fun h=>absurd h (by simp [hq'])) (fun _=>q7)
     ·exact h.elim
  ·exact h.elim
 ·rename_i hcl
  split at h
  ·exact h.elim
  ·rename_i hq
   have hq':q=false:=by simpa using hq
   rcases h with h|h
   ·obtain ⟨b,h1,h2⟩:=Aq h hcl hr
    rw [h1,Oper.uponIn_value]
    exact hn (.bool b) c (.bool b) f n h2 hk (Stp.refl c) (by simp only [Rv]) (Nat.le_refl _) (fun h=>absurd h (by simp [hq'])) (fun h=>(hq0 h).2)
   ·obtain ⟨r,v,f',c',h1,h2,h3,h4,h5,h6⟩:=AY h hk hr
    rw [h1,Oper.uponIn_value]
    exact hn v c' r f' n h2 h4 h5 h3 (Nat.le_refl _) (fun h=>absurd h (by simp [hq'])) (fun h j=>(h6 j).trans ((hq0 h).2 j))
end Go.Proofs.YtdnmfaljidjijaaGreat
