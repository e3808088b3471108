/-
  The abstract run, with what is still to be done as data: so that rewriting goes step by step.
-/
import Derived.Test.YtpmahilkkoengaaFwP
namespace Go.Proofs.Ytpmahilkkoengaa
open Go
set_option linter.unusedSimpArgs false
set_option linter.unusedVariables false

/-- What is still to be done. -/
inductive Itm : Type 1 where
  | code (c : Code)
  | ops (y q : Bool) (O : Array Oper) (n0 i : Nat) (l : List Oper)
  | blk (id : Nat)
  | lp (α : Type) (st : α → St) (m : α → Nat) (x : α)

mutual
def goS (P : Program) (z : Bool) (ne : Nat) (Q : AEx → St → Prop) : List Itm → St → Prop
  | [], s => Q .normal s
  | .code c :: k, s => awp P z ne c (fun e s' => match e with | .normal => goS P z ne Q k s' | .exit i => goX P z ne Q i k s' | .ret => Q .ret s') s
  | .ops y q O n0 i l :: k, s => aops P y q O n0 (fun s' => goS P z ne Q k s') i l s.t s.f s.n
  | .blk _ :: k, s => goS P z ne Q k s
  | .lp _ st m x :: _, s => ∃ y, le ne s (st y) ∧ m y < m x
def goX (P : Program) (z : Bool) (ne : Nat) (Q : AEx → St → Prop) (i : Nat) : List Itm → St → Prop
  | [], s => Q (.exit i) s
  | .blk j :: k, s => if i = j then goS P z ne Q k s else goX P z ne Q i k s
  | _ :: k, s => goX P z ne Q i k s
end

def go (P : Program) (z : Bool) (ne : Nat) (Q : AEx → St → Prop) (k : List Itm) (t : Nat → AV) (f : Nat → BS) (n : Nat) : Prop := goS P z ne Q k ⟨t, f, n⟩
def goE (P : Program) (z : Bool) (ne : Nat) (Q : AEx → St → Prop) (i : Nat) (k : List Itm) (t : Nat → AV) (f : Nat → BS) (n : Nat) : Prop := goX P z ne Q i k ⟨t, f, n⟩
/-- Behind a value. -/
def goV (P : Program) (z : Bool) (ne : Nat) (Q : AEx → St → Prop) (x : Res) (d : Option Tmp) (k : List Itm) (t : Nat → AV) (f : Nat → BS) (n : Nat) : Prop :=
  match x with
  | some (s, v) => s ∧ go P z ne Q k (putA t d v) f n
  | none => False
/-- Behind a new block. -/
def goG (P : Program) (z : Bool) (ne : Nat) (Q : AEx → St → Prop) (id : Nat) (x : Option (Prop × AV × BS)) (d : Option Tmp) (k : List Itm) (t : Nat → AV) (f : Nat → BS) (n : Nat) : Prop :=
  match x with
  | some (s, v, b) => s ∧ go P z ne Q k (putA t d v) (upd f id b) n
  | none => False
/-- Behind a call, in the text's order. -/
def goC (P : Program) (z : Bool) (ne : Nat) (Q : AEx → St → Prop) (g : FuncId) (args : List AV) (d : Option Tmp) (k : List Itm) (t : Nat → AV) (f : Nat → BS) (n : Nat) : Prop :=
  CA P g args f n fun r f' n' => go P z ne Q k (putA t d r) f' n'
/-- Behind a call in a region whose order is drawn. -/
def goD (P : Program) (z : Bool) (ne : Nat) (Q : AEx → St → Prop) (g : FuncId) (args : List AV) (d : Option Tmp) (k : List Itm) (t : Nat → AV) (f : Nat → BS) (n : Nat) : Prop :=
  ∃ r, Pure P g (viewL f args) r ∧ roL (viewL f args) ∧ fitsL f args ∧ (roL args ∨ flat r) ∧ go P z ne Q k (putA t d r) f n
def goCall (P : Program) (z : Bool) (ne : Nat) (Q : AEx → St → Prop) (q : Bool) (x : Option (FuncId × List AV)) (d : Option Tmp) (k : List Itm) (t : Nat → AV) (f : Nat → BS) (n : Nat) : Prop :=
  match x with
  | some (g, args) => if q then goD P z ne Q g args d k t f n else goC P z ne Q g args d k t f n
  | none => False
def goB (P : Program) (z : Bool) (ne : Nat) (Q : AEx → St → Prop) (v : AV) (k1 k2 : List Itm) (t : Nat → AV) (f : Nat → BS) (n : Nat) : Prop :=
  match v with
  | .bool b => (b = true → go P z ne Q k1 t f n) ∧ (b = false → go P z ne Q k2 t f n)
  | _ => False

section
variable {P : Program} {z : Bool} {ne : Nat} {Q : AEx → St → Prop} {k : List Itm} {t : Nat → AV} {f : Nat → BS} {n : Nat}

theorem go_nil : go P z ne Q [] t f n = Q .normal ⟨t, f, n⟩ := rfl
theorem go_skip : go P z ne Q (.code .skip :: k) t f n = go P z ne Q k t f n := rfl
theorem go_label {l : Nat} : go P z ne Q (.code (.label l) :: k) t f n = go P z ne Q k t f n := rfl
theorem go_ret : go P z ne Q (.code .ret :: k) t f n = Q .ret ⟨t, f, n⟩ := rfl
theorem go_blk {id : Nat} : go P z ne Q (.blk id :: k) t f n = go P z ne Q k t f n := rfl
theorem go_exit {i : Nat} : go P z ne Q (.code (.exit i) :: k) t f n = goE P z ne Q i k t f n := rfl
theorem goE_nil {i : Nat} : goE P z ne Q i [] t f n = Q (.exit i) ⟨t, f, n⟩ := rfl
theorem goE_same {i : Nat} : goE P z ne Q i (.blk i :: k) t f n = go P z ne Q k t f n := by simp [goE, go, goX]
theorem goE_blk {i j : Nat} : goE P z ne Q i (.blk j :: k) t f n = if i = j then go P z ne Q k t f n else goE P z ne Q i k t f n := rfl
theorem goE_code {i : Nat} {c : Code} : goE P z ne Q i (.code c :: k) t f n = goE P z ne Q i k t f n := rfl
theorem goE_ops {i : Nat} {y q : Bool} {O : Array Oper} {n0 j : Nat} {l : List Oper} : goE P z ne Q i (.ops y q O n0 j l :: k) t f n = goE P z ne Q i k t f n := rfl
theorem goE_lp {i : Nat} {α : Type} {st : α → St} {m : α → Nat} {x : α} : goE P z ne Q i (.lp α st m x :: k) t f n = goE P z ne Q i k t f n := rfl
theorem go_seq {a b : Code} : go P z ne Q (.code (.seq a b) :: k) t f n = go P z ne Q (.code a :: .code b :: k) t f n := by
  simp only [go, goS, awp]
  congr 1
  funext e s
  cases e <;> rfl
theorem go_block {id : Nat} {c : Code} : go P z ne Q (.code (.block id c) :: k) t f n = go P z ne Q (.code c :: .blk id :: k) t f n := by
  simp only [go, goS, awp]
  congr 1
  funext e s
  cases e <;> rfl
theorem go_region {id : Nat} {O : Array Oper} : go P z ne Q (.code (.region id O false) :: k) t f n = go P z ne Q (.ops false false O n 0 O.toList :: k) t f (n + O.size) := rfl
theorem go_regionD {id : Nat} {O : Array Oper} : go P false ne Q (.code (.region id O true) :: k) t f n = go P false ne Q (.ops false true O n 0 O.toList :: k) t f (n + O.size) := rfl
/-- A drawn region, where some region of the function is loose: this one is not. -/
theorem go_strict {id : Nat} {O : Array Oper} (h : lexOk false O = true) : go P z ne Q (.code (.region id O true) :: k) t f n = go P z ne Q (.ops false true O n 0 O.toList :: k) t f (n + O.size) := by
  simp only [go, goS, awp, h, Bool.not_true, Bool.and_false]
/-- This one is. -/
theorem go_loose {id : Nat} {O : Array Oper} (h : lexOk false O = false) : go P true ne Q (.code (.region id O true) :: k) t f n = go P true ne Q (.ops true true O n 0 O.toList :: k) t f (n + O.size) := by
  simp only [go, goS, awp, h, Bool.not_false, Bool.and_true]
theorem go_cond {c : Operand} {x y : Code} : go P z ne Q (.code (.cond c x y) :: k) t f n = goB P z ne Q (aev t c) (.code x :: k) (.code y :: k) t f n := by
  simp only [go, goS, awp, goB]
  cases aev t c <;> rfl
theorem go_strict' {id : Nat} {O : Array Oper} (h : lexOk false O = true) (g : go P z ne Q (.ops false true O n 0 O.toList :: k) t f (n + O.size)) : go P z ne Q (.code (.region id O true) :: k) t f n := by rw [go_strict h]; exact g
theorem go_loose' {id : Nat} {O : Array Oper} (h : lexOk false O = false) (g : go P true ne Q (.ops true true O n 0 O.toList :: k) t f (n + O.size)) : go P true ne Q (.code (.region id O true) :: k) t f n := by rw [go_loose h]; exact g
theorem goB_bool {b : Bool} {k1 k2 : List Itm} : goB P z ne Q (.bool b) k1 k2 t f n = ((b = true → go P z ne Q k1 t f n) ∧ (b = false → go P z ne Q k2 t f n)) := rfl
theorem go_loop {c : Code} {α : Type} (st : α → St) (m : α → Nat) (x0 : α) (h0 : le ne ⟨t, f, n⟩ (st x0)) (h : ∀ x, go P z ne Q (.code c :: .lp α st m x :: k) (st x).t (st x).f (st x).n) : go P z ne Q (.code (.loop c) :: k) t f n := by
  simp only [go, goS, awp]
  refine ⟨α, st, m, x0, h0, fun x => ?_⟩
  have := h x
  simp only [go, goS] at this
  refine Eq.mp ?_ this
  congr 1
  funext e s
  cases e <;> rfl
theorem go_lp {α : Type} {st : α → St} {m : α → Nat} {x : α} : go P z ne Q (.lp α st m x :: k) t f n = ∃ y, le ne ⟨t, f, n⟩ (st y) ∧ m y < m x := rfl

section ops
variable {y q : Bool} {O : Array Oper} {n0 i : Nat} {r : List Oper} {d : Option Tmp} {ty : TypeId} {pos : String} {after : Array Edge}
theorem go_ops_nil : go P z ne Q (.ops y q O n0 i [] :: k) t f n = go P z ne Q k t f n := rfl
theorem goV_some {s : Prop} {v : AV} : goV P z ne Q (some (s, v)) d k t f n = (s ∧ go P z ne Q k (putA t d v) f n) := rfl
theorem goV_true {v : AV} : goV P z ne Q (some (True, v)) d k t f n = go P z ne Q k (putA t d v) f n := by simp [goV]
theorem goG_some {id : Nat} {s : Prop} {v : AV} {b : BS} : goG P z ne Q id (some (s, v, b)) d k t f n = (s ∧ go P z ne Q k (putA t d v) (upd f id b) n) := rfl
theorem goG_true {id : Nat} {v : AV} {b : BS} : goG P z ne Q id (some (True, v, b)) d k t f n = go P z ne Q k (putA t d v) (upd f id b) n := by simp [goG]
theorem goCall_c {g : FuncId} {args : List AV} : goCall P z ne Q false (some (g, args)) d k t f n = goC P z ne Q g args d k t f n := rfl
theorem goCall_d {g : FuncId} {args : List AV} : goCall P z ne Q true (some (g, args)) d k t f n = goD P z ne Q g args d k t f n := rfl

theorem go_v {op : Op} (h : clsOf op = .v) : go P z ne Q (.ops y q O n0 i (⟨d, op, ty, pos, after, none⟩ :: r) :: k) t f n = goV P z ne Q (vop P (aev t) op) d (.ops y q O n0 (i + 1) r :: k) t f n := by
  simp only [go, goS, aops, aop, h, goV]
  cases vop P (aev t) op <;> rfl
theorem go_r {op : Op} (h : clsOf op = .r) : go P z ne Q (.ops y q O n0 i (⟨d, op, ty, pos, after, none⟩ :: r) :: k) t f n = goV P z ne Q (rop P (fz (y && q) f) (aev t) op) d (.ops y q O n0 (i + 1) r :: k) t f n := by
  simp only [go, goS, aops, aop, h, goV]
  cases rop P (fz (y && q) f) (aev t) op <;> rfl
theorem go_g {op : Op} (h : clsOf op = .g) : go P z ne Q (.ops y q O n0 i (⟨d, op, ty, pos, after, none⟩ :: r) :: k) t f n = goG P z ne Q (n0 + i) (gop P (n0 + i) (aev t) op) d (.ops y q O n0 (i + 1) r :: k) t f n := by
  simp only [go, goS, aops, aop, h, goG]
  cases gop P (n0 + i) (aev t) op <;> rfl
theorem go_call {c : Call} (h : clsOf (.call c) = .c) : go P z ne Q (.ops y q O n0 i (⟨d, .call c, ty, pos, after, none⟩ :: r) :: k) t f n = goCall P z ne Q q (calleeA (aev t) c) d (.ops y q O n0 (i + 1) r :: k) t f n := by
  simp only [go, goS, aops, aop, h, goCall, goC, goD]
  cases calleeA (aev t) c <;> rfl
/-- a guarded operation: by the guard's value -/
def goGd (P : Program) (z : Bool) (ne : Nat) (Q : AEx → St → Prop) (v : AV) (e : Tmp) (want : Bool) (d : Option Tmp) (k1 k2 : List Itm) (t : Nat → AV) (f : Nat → BS) (n : Nat) : Prop :=
  match v with
  | .bool b => (b = want → go P z ne Q k1 (upd t e (.bool want)) f n) ∧ (b = !want → go P z ne Q k2 (putA (upd t e (.bool (!want))) d (.tup [])) f n)
  | .tup [] => go P z ne Q k2 (putA t d (.tup [])) f n
  | _ => False
theorem go_guard {op : Op} {j : Nat} {want : Bool} {e : Tmp} (h : gslot O j = some e) : go P z ne Q (.ops y q O n0 i (⟨d, op, ty, pos, after, some (j, want)⟩ :: r) :: k) t f n =
    goGd P z ne Q (t e) e want d (.ops y q O n0 i (⟨d, op, ty, pos, after, none⟩ :: r) :: k) (.ops y q O n0 (i + 1) r :: k) t f n := by
  simp only [go, goS, aops, h, goGd]
  generalize t e = v
  cases v <;> first | rfl | (rename_i cs; cases cs <;> rfl)
theorem goGd_yes {e : Tmp} {want : Bool} {k1 k2 : List Itm} : goGd P z ne Q (.bool want) e want d k1 k2 t f n = go P z ne Q k1 (upd t e (.bool want)) f n := by
  cases want <;> simp [goGd]
theorem goGd_no {e : Tmp} {want : Bool} {k1 k2 : List Itm} : goGd P z ne Q (.bool (!want)) e want d k1 k2 t f n = go P z ne Q k2 (putA (upd t e (.bool (!want))) d (.tup [])) f n := by
  cases want <;> simp [goGd]
theorem goGd_tup {e : Tmp} {want : Bool} {k1 k2 : List Itm} : goGd P z ne Q (.tup []) e want d k1 k2 t f n = go P z ne Q k2 (putA t d (.tup [])) f n := rfl
theorem goGd_bool {b : Bool} {e : Tmp} {want : Bool} {k1 k2 : List Itm} : goGd P z ne Q (.bool b) e want d k1 k2 t f n = ((b = want → go P z ne Q k1 (upd t e (.bool want)) f n) ∧ (b = !want → go P z ne Q k2 (putA (upd t e (.bool (!want))) d (.tup [])) f n)) := rfl
end ops

/-- A call by a pure contract. -/
theorem goC_pure {g : FuncId} {args : List AV} {d : Option Tmp} (r : AV) (hp : Pure P g args r) (hro : roL args) (h : go P z ne Q k (putA t d r) f n) : goC P z ne Q g args d k t f n := CA.of_pure_ro hp hro h
theorem goC_view {g : FuncId} {args args' : List AV} {d : Option Tmp} (r : AV) (hp : Pure P g args' r) (hv : viewL f args = args') (hro : roL args') (hfit : fitsL f args) (hor : roL args ∨ flat r) (h : go P z ne Q k (putA t d r) f n) : goC P z ne Q g args d k t f n := CA.of_pure hp hv hro hfit hor h
theorem goD_pure {g : FuncId} {args : List AV} {d : Option Tmp} (r : AV) (hp : Pure P g args r) (hro : roL args) (h : go P z ne Q k (putA t d r) f n) : goD P z ne Q g args d k t f n := by
  refine ⟨r, ?_, ?_, fitsL_ro f args hro, .inl hro, h⟩
  · rw [viewL_ro f args hro]; exact hp
  · rw [viewL_ro f args hro]; exact hro
theorem goD_view {g : FuncId} {args args' : List AV} {d : Option Tmp} (r : AV) (hp : Pure P g args' r) (hv : viewL f args = args') (hro : roL args') (hfit : fitsL f args) (hor : roL args ∨ flat r) (h : go P z ne Q k (putA t d r) f n) : goD P z ne Q g args d k t f n :=
  ⟨r, by rw [hv]; exact hp, by rw [hv]; exact hro, hfit, hor, h⟩
end

/-! ### A function's end -/
def retP (P : Program) (rs : List ResultVar) (r : AV) : AEx → St → Prop := fun e s =>
  match e with
  | .exit _ => False
  | _ => aresK P s rs fun l => view s.f (oneOf l) = r ∧ fits s.f (oneOf l)
def retC (P : Program) (rs : List ResultVar) (n : Nat) (f : Nat → BS) (K : AV → (Nat → BS) → Nat → Prop) : AEx → St → Prop := fun e s =>
  match e with
  | .exit _ => False
  | _ => aresK P s rs fun l => (∀ j, j < n → f j = .fresh → s.f j = .fresh) ∧ K (oneOf l) s.f s.n
section
variable {P : Program} {rs : List ResultVar} {r : AV} {t : Nat → AV} {f f0 : Nat → BS} {n n0 : Nat} {K : AV → (Nat → BS) → Nat → Prop}
theorem retP_ret : retP P rs r .ret ⟨t, f, n⟩ = aresK P ⟨t, f, n⟩ rs fun l => view f (oneOf l) = r ∧ fits f (oneOf l) := rfl
theorem retP_normal : retP P rs r .normal ⟨t, f, n⟩ = aresK P ⟨t, f, n⟩ rs fun l => view f (oneOf l) = r ∧ fits f (oneOf l) := rfl
theorem retC_ret : retC P rs n0 f0 K .ret ⟨t, f, n⟩ = aresK P ⟨t, f, n⟩ rs fun l => (∀ j, j < n0 → f0 j = .fresh → f j = .fresh) ∧ K (oneOf l) f n := rfl
theorem retC_normal : retC P rs n0 f0 K .normal ⟨t, f, n⟩ = aresK P ⟨t, f, n⟩ rs fun l => (∀ j, j < n0 → f0 j = .fresh → f j = .fresh) ∧ K (oneOf l) f n := rfl
end
theorem awp_go {P : Program} {z : Bool} {ne : Nat} {Q : AEx → St → Prop} {c : Code} {t : Nat → AV} {f : Nat → BS} {n : Nat} (h : go P z ne Q [.code c] t f n) : awp P z ne c Q ⟨t, f, n⟩ := by
  simp only [go, goS] at h
  refine Eq.mp ?_ h
  congr 1
  funext e s
  cases e <;> rfl

theorem Pure.of_goz (z : Bool) {P : Program} (hm : P.follows .mixedOrders = true) {g : FuncId} {fn : Func} {c : Code} (hf : P.funcs[g]? = some fn) (hb : fn.body = some c) {rs : List ResultVar} (hrs : fn.results.toList = rs) {args : List AV} (hq : ((fn.name == "runtime.NumGoroutine") || !(codeOk z fn.ntmps c) || !decide (args.length ≤ fn.ntmps)) = false)
    {r : AV} (hro : ro r) (h : go P z 0 (retP P rs r) [.code c] (argT args) (fun _ => .fresh) 0) : Pure P g args r := by
  simp only [Bool.or_eq_false_iff, Bool.not_eq_false', decide_eq_true_eq] at hq
  subst hrs
  exact Pure.of_wp hm hf hb hq.1.1 hq.2 hq.1.2 hro (awp_go h)

theorem CA.of_goz (z : Bool) {P : Program} (hm : P.follows .mixedOrders = true) {g : FuncId} {fn : Func} {c : Code} (hf : P.funcs[g]? = some fn) (hb : fn.body = some c) {rs : List ResultVar} (hrs : fn.results.toList = rs) {args : List AV} (hq : ((fn.name == "runtime.NumGoroutine") || !(codeOk z fn.ntmps c) || !decide (args.length ≤ fn.ntmps)) = false)
    {f : Nat → BS} {n : Nat} {K : AV → (Nat → BS) → Nat → Prop} (h : go P z n (retC P rs n f K) [.code c] (argT args) f n) : CA P g args f n K := by
  simp only [Bool.or_eq_false_iff, Bool.not_eq_false', decide_eq_true_eq] at hq
  subst hrs
  exact CA.of_wp hm hf hb hq.1.1 hq.2 hq.1.2 (awp_go h)

theorem Pure.of_go {P : Program} (hm : P.follows .mixedOrders = true) {g : FuncId} {fn : Func} {c : Code} (hf : P.funcs[g]? = some fn) (hb : fn.body = some c) {rs : List ResultVar} (hrs : fn.results.toList = rs) {args : List AV} (hq : ((fn.name == "runtime.NumGoroutine") || !(codeOk false fn.ntmps c) || !decide (args.length ≤ fn.ntmps)) = false)
    {r : AV} (hro : ro r) (h : go P false 0 (retP P rs r) [.code c] (argT args) (fun _ => .fresh) 0) : Pure P g args r :=
  Pure.of_goz false hm hf hb hrs hq hro h

theorem CA.of_go {P : Program} (hm : P.follows .mixedOrders = true) {g : FuncId} {fn : Func} {c : Code} (hf : P.funcs[g]? = some fn) (hb : fn.body = some c) {rs : List ResultVar} (hrs : fn.results.toList = rs) {args : List AV} (hq : ((fn.name == "runtime.NumGoroutine") || !(codeOk false fn.ntmps c) || !decide (args.length ≤ fn.ntmps)) = false)
    {f : Nat → BS} {n : Nat} {K : AV → (Nat → BS) → Nat → Prop} (h : go P false n (retC P rs n f K) [.code c] (argT args) f n) : CA P g args f n K :=
  CA.of_goz false hm hf hb hrs hq h

theorem argT0 : argT [] = fun _ => AV.any := rfl
theorem argT1 (a : AV) : argT [a] = upd (fun _ => .any) 0 a := by
  funext k; unfold argT upd
  match k with
  | 0 => rfl
  | k + 1 => simp
theorem argT2 (a b : AV) : argT [a, b] = upd (upd (fun _ => .any) 0 a) 1 b := by
  funext k; unfold argT upd
  match k with
  | 0 => rfl
  | 1 => rfl
  | k + 2 => simp
theorem argT3 (a b c : AV) : argT [a, b, c] = upd (upd (upd (fun _ => .any) 0 a) 1 b) 2 c := by
  funext k; unfold argT upd
  match k with
  | 0 => rfl
  | 1 => rfl
  | 2 => rfl
  | k + 3 => simp
theorem argT4 (a b c d : AV) : argT [a, b, c, d] = upd (upd (upd (upd (fun _ => .any) 0 a) 1 b) 2 c) 3 d := by
  funext k; unfold argT upd
  match k with
  | 0 => rfl
  | 1 => rfl
  | 2 => rfl
  | 3 => rfl
  | k + 4 => simp

theorem upd_lit {α : Type} (g : Nat → α) (i : Nat) (x : α) (j : Nat) : upd g i x j = if j = i then x else g j := rfl

end Go.Proofs.Ytpmahilkkoengaa
