/-
  What the operations do to abstract values: the value operations, the reading ones, those that make a block, those that write one; and that the machine does so.
-/
import Derived.Test.YtpmahilkkoengaaFwA
import Derived.Laws.Cells
import Derived.Laws.Slices
import Derived.Laws.CopyRow
import Derived.Laws.MakeOwn
import Derived.Laws.AppendOwn
namespace Go.Proofs.Ytpmahilkkoengaa
open Go

/-- One cell's value. -/
def AV.sca : AV → Bool
  | .any | .agg _ | .tup _ => false
  | _ => true
def AV.cells : AV → List AV
  | .agg cs => cs
  | a => [a]
def AV.shaped (a : AV) (n : Nat) : Bool :=
  match a with
  | .agg cs => cs.length == n
  | a => a.sca && n == 1
/-- The abstract value of a constant. -/
def absV : Value → AV
  | .bool b => .bool b
  | .int k n => .int k n
  | .string s => .str s
  | .slice none 0 0 => .sl 0 true []
  | .pointer none => .nilp
  | _ => .any

inductive TK where
  | bool | int (k : IntKind) | string | slice (e : TypeId) | array (n : Nat) (e : TypeId) | struct (fs : List (Nat × TypeId)) | pointer (e : TypeId) | func | other
def tkOf : TypeDesc → TK
  | .bool => .bool
  | .int k => .int k
  | .string => .string
  | .slice e => .slice e
  | .array n e => .array n e
  | .struct fs => .struct (fs.toList.map fun f => (f.offset, f.type))
  | .pointer e => .pointer e
  | .func .. => .func
  | _ => .other
def TK.agg : TK → Bool
  | .struct _ | .array .. => true
  | _ => false
structure TI where
  size : Nat
  bytes : Nat
  kind : TK
  zero : List AV
def aggB : Value → Bool
  | .agg _ => true
  | _ => false
def fieldsB (P : Program) : TypeDesc → Bool
  | .struct fs => fs.toList.all fun f => (P.info? f.type).isSome
  | _ => true
/-- What is asked of a type. -/
def tiOf (P : Program) (t : TypeId) : Option TI :=
  match P.underlying t, P.info? t with
  | some d, some i =>
    match i.zero with
    | some z => if (z.cells.toList.all (·.oneCell')) && z.cells.size == i.size && (aggB z == (tkOf d).agg) && fieldsB P d then some ⟨i.size, i.bytes, tkOf d, z.cells.toList.map absV⟩ else none
    | none => none
  | _, _ => none

def pack (agg : Bool) (cs : List AV) : AV := if agg then .agg cs else cs.headD .any
def TI.zval (t : TI) : AV := pack t.kind.agg t.zero
/-- Cells laid into an element. -/
def AV.lay (a : AV) (off : Nat) (new : List AV) : AV :=
  match a with
  | .agg cs => .agg (cs.take off ++ new ++ cs.drop (off + new.length))
  | _ => new.headD .any
def getE (l : List AV) (i : Int) : AV := l.getD i.toNat .any

/-- An operand's abstract value. -/
def aev (t : Nat → AV) : Operand → AV
  | .tmp n => t n
  | .const v => absV v
  | .func f => .fn (.func f) [] []
  | .global _ => .any

abbrev Res := Option (Prop × AV)

def binA (op : BinOp) (x y : AV) : Res :=
  match op, x, y with
  | .shl, .int k a, .int _ b => some (0 ≤ b, .int k (k.wrap (a * 2 ^ (min b.toNat k.bits))))
  | .shr, .int k a, .int _ b => some (0 ≤ b, .int k (a.fdiv (2 ^ (min b.toNat k.bits))))
  | .add, .int k a, .int k' b => if k = k' then some (True, .int k (k.wrap (a + b))) else none
  | .sub, .int k a, .int k' b => if k = k' then some (True, .int k (k.wrap (a - b))) else none
  | .mul, .int k a, .int k' b => if k = k' then some (True, .int k (k.wrap (a * b))) else none
  | .quo, .int k a, .int k' b => if k = k' then some (b ≠ 0, .int k (k.wrap (a.tdiv b))) else none
  | .rem, .int k a, .int k' b => if k = k' then some (b ≠ 0, .int k (a.tmod b)) else none
  | .and, .int k a, .int k' b => if k = k' then some (True, .int k (k.wrap ((BitVec.ofInt k.bits a &&& BitVec.ofInt k.bits b).toNat))) else none
  | .or, .int k a, .int k' b => if k = k' then some (True, .int k (k.wrap ((BitVec.ofInt k.bits a ||| BitVec.ofInt k.bits b).toNat))) else none
  | .xor, .int k a, .int k' b => if k = k' then some (True, .int k (k.wrap ((BitVec.ofInt k.bits a ^^^ BitVec.ofInt k.bits b).toNat))) else none
  | .eql, .int k a, .int k' b => if k = k' then some (True, .bool (decide (a = b))) else none
  | .neq, .int k a, .int k' b => if k = k' then some (True, .bool (!decide (a = b))) else none
  | .lss, .int k a, .int k' b => if k = k' then some (True, .bool (decide (a < b))) else none
  | .leq, .int k a, .int k' b => if k = k' then some (True, .bool (decide (a ≤ b))) else none
  | .gtr, .int k a, .int k' b => if k = k' then some (True, .bool (decide (a > b))) else none
  | .geq, .int k a, .int k' b => if k = k' then some (True, .bool (decide (a ≥ b))) else none
  | .add, .str a, .str b => some (((a.size + b.size : Nat) : Int) ≤ 9223372036854775807, .str (a ++ b))
  | .eql, .str a, .str b => some (True, .bool (a.toList == b.toList))
  | .neq, .str a, .str b => some (True, .bool (!(a.toList == b.toList)))
  | .eql, .bool a, .bool b => some (True, .bool (a == b))
  | .neq, .bool a, .bool b => some (True, .bool (!(a == b)))
  | _, _, _ => none

def unA (op : UnOp) (x : AV) : Res :=
  match op, x with
  | .not, .bool b => some (True, .bool (!b))
  | .neg, .int k n => some (True, .int k (k.wrap (0 - n)))
  | .xor, .int k n => some (True, .int k (k.wrap ((BitVec.ofInt k.bits (if k.signed then -1 else k.max) ^^^ BitVec.ofInt k.bits n).toNat)))
  | _, _ => none

def elemSize (P : Program) (t : TypeId) : Option Nat :=
  match tiOf P t with
  | some ti => match ti.kind with
    | .slice e => (tiOf P e).map (·.size)
    | _ => none
  | none => none

def mxOk : Option Int → Int → Nat → Prop
  | some m, h, len => h ≤ m ∧ m ≤ (len : Int)
  | none, _, _ => True
def mxCap : Option Int → Nat → Nat
  | some m, _ => m.toNat
  | none, cap => cap
/-- A slice of a slice or a string; lo, hi, mx as numbers. -/
def sliceA (x : AV) (lo hi mx : Option Int) : Res :=
  match x with
  | .sl sz tight l =>
    let h := hi.getD l.length
    let o := lo.getD 0
    some (0 ≤ o ∧ o ≤ h ∧ h ≤ (l.length : Int) ∧ mxOk mx h l.length,
      .sl sz (match mx with | some m => decide (m = h) | none => tight && hi.isNone) ((l.take h.toNat).drop o.toNat))
  | .own sz id off len =>
    let h := hi.getD len
    let o := lo.getD 0
    some (0 ≤ o ∧ o ≤ h ∧ h ≤ (len : Int) ∧ mxOk mx h len, .own sz id (off + o.toNat) (h.toNat - o.toNat))
  | .str s =>
    match mx with
    | some _ => none
    | none =>
      let h := hi.getD s.size
      let o := lo.getD 0
      some (0 ≤ o ∧ o ≤ h ∧ h ≤ (s.size : Int), .str (s.extract o.toNat h.toNat))
  | _ => none

def optInt (ρ : Operand → AV) : Option Operand → Option (Option Int)
  | none => some none
  | some x => match ρ x with
    | .int _ n => some (some n)
    | _ => none

def fillA (place : Nat → Option (Nat × Nat)) (ρ : Operand → AV) : List (Nat × Operand) → List AV → Option (List AV)
  | [], cs => some cs
  | (i, x) :: r, cs =>
    match place i with
    | none => none
    | some (off, size) => if (ρ x).shaped size && decide (off + size ≤ cs.length) then fillA place ρ r (cs.take off ++ (ρ x).cells ++ cs.drop (off + size)) else none

/-- Operations that hang on their operands alone. -/
def vop (P : Program) (ρ : Operand → AV) : Op → Res
  | .move x | .assign x => some (True, ρ x)
  | .pick c a b => match ρ c with
    | .bool t => some (True, if t then ρ a else ρ b)
    | _ => none
  | .unOp op _ x => unA op (ρ x)
  | .binOp op t x y _ => match ρ x with
    | .bool a => match tiOf P t with
      | some ti => match ti.kind with
        | .bool => binA op (.bool a) (ρ y)
        | _ => none
      | none => none
    | .int k a => binA op (.int k a) (ρ y)
    | .str a => binA op (.str a) (ρ y)
    | _ => none
  | .makeFunc fn first cap => some (True, .fn fn (first.toList.map ρ) (cap.toList.map ρ))
  | .fieldAddr s x f =>
    match tiOf P s with
    | some ti => match ti.kind with
      | .struct fs => match fs[f]? with
        | some (off, t) => match tiOf P t with
          | some tf => if tf.size = 0 then none else match ρ x with
            | .ptr id idx o => some (True, .ptr id idx (o + off))
            | .rp cs => some (True, .rp (cs.drop off))
            | _ => none
          | none => none
        | none => none
      | _ => none
    | none => none
  | .field s x f =>
    match tiOf P s with
    | some ti => match ti.kind with
      | .struct fs => match fs[f]? with
        | some (off, t) => match tiOf P t, ρ x with
          | some tf, .agg cs => some (off + tf.size ≤ cs.length, pack tf.kind.agg ((cs.drop off).take tf.size))
          | _, _ => none
        | none => none
      | _ => none
    | none => none
  | .indexAddr t x i =>
    match tiOf P t, ρ x, ρ i with
    | some ti, .sl sz _ l, .int _ i => match ti.kind with
      | .slice e => match tiOf P e with
        | some te => if te.size = sz then some (0 ≤ i ∧ i < (l.length : Int), .rp (getE l i).cells) else none
        | none => none
      | _ => none
    | some ti, .own sz id off len, .int _ i => match ti.kind with
      | .slice e => match tiOf P e with
        | some te => if te.size = sz then some (0 ≤ i ∧ i < (len : Int), .ptr id (off + i.toNat) 0) else none
        | none => none
      | _ => none
    | some ti, .ptr id idx off, .int _ i => match ti.kind with
      | .array n e => match tiOf P e with
        | some te => some (0 ≤ i ∧ i < (n : Int), .ptr id idx (off + i.toNat * te.size))
        | none => none
      | _ => none
    | some ti, .rp cs, .int _ i => match ti.kind with
      | .array n e => match tiOf P e with
        | some te => some (0 ≤ i ∧ i < (n : Int), .rp (cs.drop (i.toNat * te.size)))
        | none => none
      | _ => none
    | _, _, _ => none
  | .index t x i =>
    match tiOf P t, ρ x, ρ i with
    | some ti, .str s, .int _ i => match ti.kind with
      | .string => some (0 ≤ i ∧ i < (s.size : Int), .int .u8 ((s.data.toList.getD i.toNat 0).toNat : Nat))
      | _ => none
    | some ti, .agg cs, .int _ i => match ti.kind with
      | .array n e => match tiOf P e with
        | some te => some (0 ≤ i ∧ i < (n : Int) ∧ i.toNat * te.size + te.size ≤ cs.length, pack te.kind.agg ((cs.drop (i.toNat * te.size)).take te.size))
        | none => none
      | _ => none
    | _, _, _ => none
  | .extract x i => match ρ x with
    | .tup cs => some (i < cs.length, cs.getD i .any)
    | _ => none
  | .build t parts =>
    match tiOf P t with
    | some ti => match ti.kind with
      | .struct fs => (fillA (fun i => (fs[i]?).bind fun p => (tiOf P p.2).map fun tf => (p.1, tf.size)) ρ parts.toList ti.zero).map fun cs => (True, .agg cs)
      | .array _ e => match tiOf P e with
        | some te => (fillA (fun i => some (i * te.size, te.size)) ρ parts.toList ti.zero).map fun cs => (True, .agg cs)
        | none => none
      | _ => none
    | none => none
  | .nilCheck x => match ρ x with
    | .ptr id idx off => some (True, .ptr id idx off)
    | .rp cs => some (True, .rp cs)
    | _ => none
  | .slice t x lo hi mx =>
    match tiOf P t, optInt ρ lo, optInt ρ hi, optInt ρ mx with
    | some ti, some lo, some hi, some mx => match ti.kind, ρ x with
      | .slice e, .sl sz tight l => match tiOf P e with
        | some te => if te.size = sz ∨ l = [] then (if mx.isSome && hi.isNone then none else sliceA (.sl sz tight l) lo hi mx) else none
        | none => none
      | .slice e, .own sz id off len => match tiOf P e with
        | some te => if te.size = sz then (if mx.isSome && hi.isNone then none else sliceA (.own sz id off len) lo hi mx) else none
        | none => none
      | .string, .str s => sliceA (.str s) lo hi mx
      | _, _ => none
    | _, _, _, _ => none
  | .call c =>
    match c.callee with
    | .builtin .len => match c.argTypes.toList, c.args.toList with
      | [t], [x] => match tiOf P t, ρ x with
        | some ti, .str s => match ti.kind with
          | .string => some (True, .int .i64 s.size)
          | _ => none
        | some ti, .sl _ _ l => match ti.kind with
          | .slice _ => some (True, .int .i64 l.length)
          | _ => none
        | some ti, .own _ _ _ len => match ti.kind with
          | .slice _ => some (True, .int .i64 len)
          | _ => none
        | some ti, _ => match ti.kind with
          | .array n _ => some (True, .int .i64 n)
          | _ => none
        | _, _ => none
      | _, _ => none
    | .builtin .max => match c.args.toList with
      | [x, y] => match ρ x, ρ y with
        | .int k a, .int _ b => some (True, .int k (if b > a then b else a))
        | _, _ => none
      | _ => none
    | .builtin .min => match c.args.toList with
      | [x, y] => match ρ x, ρ y with
        | .int k a, .int _ b => some (True, .int k (if b < a then b else a))
        | _, _ => none
      | _ => none
    | _ => none
  | _ => none

/-- A slice's elements. -/
def elemsA (f : Nat → BS) : AV → Option (List AV)
  | .sl _ _ l => some l
  | .own _ id off len => match f id with
    | .live _ l => some ((l.drop off).take len)
    | _ => none
  | _ => none
def fitsA (f : Nat → BS) : AV → Prop
  | .own _ id off len => match f id with
    | .live _ l => off + len ≤ l.length
    | _ => False
  | _ => True
def szA : AV → Nat
  | .sl sz _ _ => sz
  | .own sz _ _ _ => sz
  | _ => 0

/-- Bytes as numbers. -/
def u8L : List AV → Option (List Int)
  | [] => some []
  | a :: l => match a with
    | .int .u8 n => (u8L l).map (n :: ·)
    | _ => none
def strOf (ns : List Int) : ByteArray := ns.foldl (fun r n => r.push (UInt8.ofNat n.toNat)) ByteArray.empty
def byteK (x : Option TI) : Bool := match x with
  | some ti => match ti.kind with
    | .int .u8 => true
    | _ => false
  | none => false
/-- Bytes to a text. -/
def strV (b : Bool) (l : Option (List AV)) (p : Prop) : Res := match b, l.bind u8L with
  | true, some ns => some (ns ≠ [] ∧ p, .str (strOf ns))
  | _, _ => none
def slStr (P : Program) (x y : Option TI) (l : Option (List AV)) (p : Prop) : Res := match x, y with
  | some ts, some td => match ts.kind, td.kind with
    | .slice e, .string => strV (byteK (tiOf P e)) l p
    | _, _ => none
  | _, _ => none
theorem slStr_none (P : Program) (x y : Option TI) (p : Prop) : slStr P x y none p = none := by
  unfold slStr
  cases x with
  | none => rfl
  | some ts => cases y with
    | none => rfl
    | some td =>
      simp only
      split
      · simp only [strV, Option.bind_none]
        split
        · rename_i h; cases h
        · rfl
      · rfl
/-- A conversion. -/
def convV (P : Program) (f : Nat → BS) (x y : Option TI) (v : AV) : Res := match v with
  | .int _ n => match x, y with
    | some _, some ti => match ti.kind with
      | .int k => some (True, .int k (k.wrap n))
      | _ => none
    | _, _ => none
  | .sl sz tg l => slStr P x y (elemsA f (.sl sz tg l)) (sz = 1)
  | .own sz id off len => slStr P x y (elemsA f (.own sz id off len)) (sz = 1 ∧ fitsA f (.own sz id off len))
  | _ => none

/-- Operations that read memory. -/
def rop (P : Program) (f : Nat → BS) (ρ : Operand → AV) : Op → Res
  | .load t a =>
    match tiOf P t, ρ a with
    | some ti, .rp cs => some (ti.size ≤ cs.length ∧ (ti.kind.agg = true ∨ 0 < cs.length), pack ti.kind.agg (if ti.kind.agg then cs.take ti.size else cs))
    | some ti, .ptr id idx off => match f id with
      | .live _ l => let cs := (l.getD idx .any).cells.drop off
        some (idx < l.length ∧ ti.size ≤ cs.length ∧ (ti.kind.agg = true ∨ 0 < cs.length), pack ti.kind.agg (if ti.kind.agg then cs.take ti.size else cs))
      | _ => none
    | _, _ => none
  | .convert src dst x => convV P f (tiOf P src) (tiOf P dst) (ρ x)
  | _ => none

/-- Operations that make a block: the value, and the block. -/
def gop (P : Program) (id : Nat) (ρ : Operand → AV) : Op → Option (Prop × AV × BS)
  | .alloc t => (tiOf P t).map fun ti => (True, .ptr id 0 0, .live ti.size [ti.zval])
  | .box t x => (tiOf P t).bind fun ti => if (ρ x).shaped ti.size then some (True, .ptr id 0 0, .live ti.size [ρ x]) else none
  | .buildSlice t len parts =>
    match tiOf P t with
    | some ti => match ti.kind with
      | .slice e => match tiOf P e with
        | some te =>
          if parts.toList.map (·.1) = List.range len ∧ (parts.toList.all fun p => (ρ p.2).shaped te.size) = true ∧ len * te.size ≤ 16777216 then some (True, .own te.size id 0 len, .live te.size (parts.toList.map fun p => ρ p.2)) else none
        | none => none
      | _ => none
    | none => none
  | .makeSlice t l c =>
    match tiOf P t, ρ l, ρ c with
    | some ti, .int _ n, .int _ m => match ti.kind with
      | .slice e => match tiOf P e with
        | some te => some (0 ≤ n ∧ n ≤ m ∧ (te.bytes : Int) * m ≤ 281474976710656 ∧ m ≤ 9223372036854775807, .own te.size id 0 n.toNat, .live te.size (List.replicate n.toNat te.zval))
        | none => none
      | _ => none
    | _, _, _ => none
  | _ => none

/-- Operations that write: the value, and the heap behind. -/
def lop (P : Program) (id : Nat) (f : Nat → BS) (ρ : Operand → AV) (K : AV → (Nat → BS) → Prop) : Op → Prop
  | .store t x v =>
    match tiOf P t, ρ x with
    | some ti, .ptr i idx off => match f i with
      | .live sz l => (ρ v).shaped ti.size = true ∧ idx < l.length ∧ off + ti.size ≤ (l.getD idx .any).cells.length ∧ 0 < ti.size ∧
          K .any (upd f i (.live sz (l.set idx ((l.getD idx .any).lay off (ρ v).cells))))
      | _ => False
    | _, _ => False
  | .range t x =>
    match tiOf P t, ρ x with
    | some ti, .str s => match ti.kind with
      | .string => K (.ptr id 0 0) (upd f id (.iter s 0))
      | _ => False
    | _, _ => False
  | .next it b =>
    match ρ it with
    | .ptr i 0 0 => match f i with
      | .iter s p => b = true ∧ if p < s.size then K (.tup [.bool true, .int .i64 p, .int .i32 (Utf8.decode s p).1]) (upd f i (.iter s (p + (Utf8.decode s p).2))) else K (.tup [.bool false]) f
      | _ => False
    | _ => False
  | .call c =>
    match c.callee, c.argTypes.toList, c.args.toList with
    | .builtin .append, [t, t'], [x, y] =>
      match tiOf P t, tiOf P t' with
      | some ti, some ti' => match ti.kind, ti'.kind with
        | .slice e, .slice _ => match tiOf P e with
          | some te =>
            match ρ x, elemsA f (ρ y) with
            | .own sz i off len, some new => match f i with
              | .live _ l => (te.size = sz ∧ (szA (ρ y) = sz ∨ new = []) ∧ 0 < sz ∧ 0 < te.bytes) ∧ fitsA f (ρ y) ∧ off + len ≤ l.length ∧ ((len + new.length : Nat) : Int) * te.bytes ≤ 70368744177664 ∧
                  K (.own sz id 0 (len + new.length)) (upd (upd f i .dead) id (.live sz ((l.drop off).take len ++ new)))
              | _ => False
            | .sl sz tight l, some new =>
              tight = true ∧ ((te.size = sz ∨ l = []) ∧ (szA (ρ y) = te.size ∨ new = []) ∧ 0 < te.size ∧ 0 < te.bytes ∧ (l = [] ∨ new ≠ [])) ∧ fitsA f (ρ y) ∧ ((l.length + new.length : Nat) : Int) * te.bytes ≤ 70368744177664 ∧
                  K (.own te.size id 0 (l.length + new.length)) (upd f id (.live te.size (l ++ new)))
            | _, _ => False
          | none => False
        | _, _ => False
      | _, _ => False
    | _, _, _ => False
  | _ => False

inductive Cls where | v | r | g | l | c
  deriving DecidableEq
/-- The class of an operation: value, reading, making, writing, calling. -/
def clsOf : Op → Cls
  | .load .. | .convert .. => .r
  | .alloc .. | .box .. | .buildSlice .. | .makeSlice .. => .g
  | .store .. => .l
  | .call c => match c.callee with
    | .builtin .append => .l
    | .builtin _ => .v
    | _ => .c
  | .move .. | .assign .. | .pick .. | .unOp .. | .binOp .. | .makeFunc .. | .fieldAddr .. | .field .. | .indexAddr .. | .index .. | .extract .. | .build .. | .nilCheck .. | .slice .. => .v
  | _ => .l
end Go.Proofs.Ytpmahilkkoengaa
