/-
  The abstract run, operation by operation, as rules for rewriting.
-/
import Derived.Test.YtpmahilkkoengaaFwQ
namespace Go.Proofs.Ytpmahilkkoengaa
open Go
set_option linter.unusedSimpArgs false
set_option linter.unusedVariables false

attribute [go_sem] retP_ret retP_normal retC_ret retC_normal go_nil go_skip go_label go_ret go_blk go_exit goE_nil goE_same goE_blk goE_code goE_ops goE_lp go_seq go_block go_region go_regionD go_cond goB_bool go_ops_nil goV_true goV_some goG_true goG_some goCall_c goCall_d goGd_yes goGd_no goGd_tup goGd_bool argT0 argT1 argT2 argT3 argT4

@[go_sem] theorem upd_lit' {α : Type} (g : Nat → α) (i : Nat) (x : α) (j : Nat) : upd g i x j = if j = i then x else g j := rfl
@[go_sem] theorem aev_tmp (t : Nat → AV) (k : Nat) : aev t (.tmp k) = t k := rfl
@[go_sem] theorem aev_int (t : Nat → AV) (k : IntKind) (n : Int) : aev t (.const (.int k n)) = .int k n := rfl
@[go_sem] theorem aev_bool (t : Nat → AV) (b : Bool) : aev t (.const (.bool b)) = .bool b := rfl
@[go_sem] theorem aev_str (t : Nat → AV) (s : ByteArray) : aev t (.const (.string s)) = .str s := rfl
@[go_sem] theorem aev_nil (t : Nat → AV) : aev t (.const (.slice none 0 0)) = .sl 0 true [] := rfl
@[go_sem] theorem aev_nilp (t : Nat → AV) : aev t (.const (.pointer none)) = .nilp := rfl
@[go_sem] theorem aev_nilf (t : Nat → AV) : aev t (.const .nilFunc) = .any := rfl
@[go_sem] theorem aev_func (t : Nat → AV) (g : FuncId) : aev t (.func g) = .fn (.func g) [] [] := rfl
@[go_sem] theorem putA_some (t : Nat → AV) (d : Nat) (v : AV) : putA t (some d) v = upd t d v := rfl
@[go_sem] theorem putA_none (t : Nat → AV) (v : AV) : putA t none v = t := rfl

/-! ### Values out of values -/
def pickA (c a b : AV) : Res := match c with
  | .bool t => some (True, if t then a else b)
  | _ => none
@[go_sem] theorem pickA_true (a b : AV) : pickA (.bool true) a b = some (True, a) := rfl
@[go_sem] theorem pickA_false (a b : AV) : pickA (.bool false) a b = some (True, b) := rfl
theorem pickA_bool (t : Bool) (a b : AV) : pickA (.bool t) a b = some (True, if t then a else b) := rfl

def binV (P : Program) (op : BinOp) (t : TypeId) (x y : AV) : Res := match x with
  | .bool a => match tiOf P t with
    | some ti => match ti.kind with
      | .bool => binA op (.bool a) y
      | _ => none
    | none => none
  | .int k a => binA op (.int k a) y
  | .str a => binA op (.str a) y
  | _ => none
@[go_sem] theorem binV_int (P : Program) (op : BinOp) (t : TypeId) (k : IntKind) (a : Int) (y : AV) : binV P op t (.int k a) y = binA op (.int k a) y := rfl
@[go_sem] theorem binV_str (P : Program) (op : BinOp) (t : TypeId) (a : ByteArray) (y : AV) : binV P op t (.str a) y = binA op (.str a) y := rfl
def boolK (x : Option TI) (r : Res) : Res := match x with
  | some ti => match ti.kind with
    | .bool => r
    | _ => none
  | none => none
@[go_sem] theorem boolK_some (a b : Nat) (z : List AV) (r : Res) : boolK (some ⟨a, b, .bool, z⟩) r = r := rfl
@[go_sem] theorem binV_bool (P : Program) (op : BinOp) (t : TypeId) (a : Bool) (y : AV) : binV P op t (.bool a) y = boolK (tiOf P t) (binA op (.bool a) y) := by
  simp only [binV, boolK]

section
variable (k : IntKind) (a b : Int) (k' : IntKind)
@[go_sem] theorem binA_shl : binA .shl (.int k a) (.int k' b) = some (0 ≤ b, .int k (k.wrap (a * 2 ^ (min b.toNat k.bits)))) := rfl
@[go_sem] theorem binA_shr : binA .shr (.int k a) (.int k' b) = some (0 ≤ b, .int k (a.fdiv (2 ^ (min b.toNat k.bits)))) := rfl
@[go_sem] theorem binA_add : binA .add (.int k a) (.int k b) = some (True, .int k (k.wrap (a + b))) := by simp [binA]
@[go_sem] theorem binA_sub : binA .sub (.int k a) (.int k b) = some (True, .int k (k.wrap (a - b))) := by simp [binA]
@[go_sem] theorem binA_mul : binA .mul (.int k a) (.int k b) = some (True, .int k (k.wrap (a * b))) := by simp [binA]
@[go_sem] theorem binA_quo : binA .quo (.int k a) (.int k b) = some (b ≠ 0, .int k (k.wrap (a.tdiv b))) := by simp [binA]
@[go_sem] theorem binA_rem : binA .rem (.int k a) (.int k b) = some (b ≠ 0, .int k (a.tmod b)) := by simp [binA]
@[go_sem] theorem binA_and : binA .and (.int k a) (.int k b) = some (True, .int k (k.wrap ((BitVec.ofInt k.bits a &&& BitVec.ofInt k.bits b).toNat))) := by simp [binA]
@[go_sem] theorem binA_or : binA .or (.int k a) (.int k b) = some (True, .int k (k.wrap ((BitVec.ofInt k.bits a ||| BitVec.ofInt k.bits b).toNat))) := by simp [binA]
@[go_sem] theorem binA_xor : binA .xor (.int k a) (.int k b) = some (True, .int k (k.wrap ((BitVec.ofInt k.bits a ^^^ BitVec.ofInt k.bits b).toNat))) := by simp [binA]
@[go_sem] theorem binA_eql : binA .eql (.int k a) (.int k b) = some (True, .bool (decide (a = b))) := by simp [binA]
@[go_sem] theorem binA_neq : binA .neq (.int k a) (.int k b) = some (True, .bool (!decide (a = b))) := by simp [binA]
@[go_sem] theorem binA_lss : binA .lss (.int k a) (.int k b) = some (True, .bool (decide (a < b))) := by simp [binA]
@[go_sem] theorem binA_leq : binA .leq (.int k a) (.int k b) = some (True, .bool (decide (a ≤ b))) := by simp [binA]
@[go_sem] theorem binA_gtr : binA .gtr (.int k a) (.int k b) = some (True, .bool (decide (a > b))) := by simp [binA]
@[go_sem] theorem binA_geq : binA .geq (.int k a) (.int k b) = some (True, .bool (decide (a ≥ b))) := by simp [binA]
end
@[go_sem] theorem binA_sadd (a b : ByteArray) : binA .add (.str a) (.str b) = some (((a.size + b.size : Nat) : Int) ≤ 9223372036854775807, .str (a ++ b)) := rfl
@[go_sem] theorem binA_seql (a b : ByteArray) : binA .eql (.str a) (.str b) = some (True, .bool (a.toList == b.toList)) := rfl
@[go_sem] theorem binA_sneq (a b : ByteArray) : binA .neq (.str a) (.str b) = some (True, .bool (!(a.toList == b.toList))) := rfl
@[go_sem] theorem binA_beql (a b : Bool) : binA .eql (.bool a) (.bool b) = some (True, .bool (a == b)) := rfl
@[go_sem] theorem binA_bneq (a b : Bool) : binA .neq (.bool a) (.bool b) = some (True, .bool (!(a == b))) := rfl
@[go_sem] theorem unA_not (b : Bool) : unA .not (.bool b) = some (True, .bool (!b)) := rfl
@[go_sem] theorem unA_neg (k : IntKind) (n : Int) : unA .neg (.int k n) = some (True, .int k (k.wrap (0 - n))) := rfl
@[go_sem] theorem unA_xor (k : IntKind) (n : Int) : unA .xor (.int k n) = some (True, .int k (k.wrap ((BitVec.ofInt k.bits (if k.signed then -1 else k.max) ^^^ BitVec.ofInt k.bits n).toNat))) := rfl

@[go_sem] theorem convV_int (P : Program) (f : Nat → BS) (x : TI) (a b : Nat) (k : IntKind) (z : List AV) (k' : IntKind) (n : Int) : convV P f (some x) (some ⟨a, b, .int k, z⟩) (.int k' n) = some (True, .int k (k.wrap n)) := rfl
@[go_sem] theorem convV_sl (P : Program) (f : Nat → BS) (a b : Nat) (e : TypeId) (z : List AV) (a' b' : Nat) (z' : List AV) (sz : Nat) (tg : Bool) (l : List AV) : convV P f (some ⟨a, b, .slice e, z⟩) (some ⟨a', b', .string, z'⟩) (.sl sz tg l) = strV (byteK (tiOf P e)) (some l) (sz = 1) := rfl
@[go_sem] theorem byteK_some (a b : Nat) (z : List AV) : byteK (some ⟨a, b, .int .u8, z⟩) = true := rfl
@[go_sem] theorem u8L_nil : u8L [] = some [] := rfl
@[go_sem] theorem u8L_cons (n : Int) (l : List AV) : u8L (.int .u8 n :: l) = (u8L l).map (n :: ·) := rfl
@[go_sem] theorem strV_some (ns : List Int) (l : List AV) (p : Prop) (h : u8L l = some ns) : strV true (some l) p = some (ns ≠ [] ∧ p, .str (strOf ns)) := by
  simp only [strV, Option.bind_some, h]

def fieldOff (x : Option TI) (i : Nat) : Option (Nat × TypeId) := match x with
  | some ti => match ti.kind with
    | .struct fs => fs[i]?
    | _ => none
  | none => none
@[go_sem] theorem fieldOff_some (a b : Nat) (fs : List (Nat × TypeId)) (z : List AV) (i : Nat) : fieldOff (some ⟨a, b, .struct fs, z⟩) i = fs[i]? := rfl
def faddrV (P : Program) (x : Option (Nat × TypeId)) (v : AV) : Res := match x with
  | some (off, t) => match tiOf P t with
    | some tf => if tf.size = 0 then none else match v with
      | .ptr id idx o => some (True, .ptr id idx (o + off))
      | .rp cs => some (True, .rp (cs.drop off))
      | _ => none
    | none => none
  | none => none
def sizeNz (x : Option TI) (r : Res) : Res := match x with
  | some tf => if tf.size = 0 then none else r
  | none => none
@[go_sem] theorem sizeNz_some (a b : Nat) (kd : TK) (z : List AV) (r : Res) : sizeNz (some ⟨a, b, kd, z⟩) r = if a = 0 then none else r := rfl
@[go_sem] theorem faddrV_ptr (P : Program) (off : Nat) (t : TypeId) (id idx o : Nat) : faddrV P (some (off, t)) (.ptr id idx o) = sizeNz (tiOf P t) (some (True, .ptr id idx (o + off))) := by
  simp only [faddrV, sizeNz]
@[go_sem] theorem faddrV_rp (P : Program) (off : Nat) (t : TypeId) (cs : List AV) : faddrV P (some (off, t)) (.rp cs) = sizeNz (tiOf P t) (some (True, .rp (cs.drop off))) := by
  simp only [faddrV, sizeNz]
def fieldV (P : Program) (x : Option (Nat × TypeId)) (v : AV) : Res := match x with
  | some (off, t) => match tiOf P t, v with
    | some tf, .agg cs => some (off + tf.size ≤ cs.length, pack tf.kind.agg ((cs.drop off).take tf.size))
    | _, _ => none
  | none => none
def partOf (x : Option TI) (off : Nat) (cs : List AV) : Res := match x with
  | some tf => some (off + tf.size ≤ cs.length, pack tf.kind.agg ((cs.drop off).take tf.size))
  | none => none
@[go_sem] theorem partOf_some (a b : Nat) (kd : TK) (z : List AV) (off : Nat) (cs : List AV) : partOf (some ⟨a, b, kd, z⟩) off cs = some (off + a ≤ cs.length, pack kd.agg ((cs.drop off).take a)) := rfl
@[go_sem] theorem fieldV_agg (P : Program) (off : Nat) (t : TypeId) (cs : List AV) : fieldV P (some (off, t)) (.agg cs) = partOf (tiOf P t) off cs := by
  simp only [fieldV, partOf]
  cases tiOf P t <;> rfl
@[go_sem] theorem agg_struct (fs : List (Nat × TypeId)) : (TK.struct fs).agg = true := rfl
@[go_sem] theorem agg_array (n : Nat) (e : TypeId) : (TK.array n e).agg = true := rfl
@[go_sem] theorem agg_int (k : IntKind) : (TK.int k).agg = false := rfl
@[go_sem] theorem agg_bool : TK.bool.agg = false := rfl
@[go_sem] theorem agg_string : TK.string.agg = false := rfl
@[go_sem] theorem agg_slice (e : TypeId) : (TK.slice e).agg = false := rfl
@[go_sem] theorem agg_pointer (e : TypeId) : (TK.pointer e).agg = false := rfl
@[go_sem] theorem agg_func : TK.func.agg = false := rfl
@[go_sem] theorem agg_other : TK.other.agg = false := rfl
@[go_sem] theorem pack_true (cs : List AV) : pack true cs = .agg cs := rfl
@[go_sem] theorem pack_false (c : AV) (cs : List AV) : pack false (c :: cs) = c := rfl

def elemTI (P : Program) (x : Option TI) : Option TI := match x with
  | some ti => match ti.kind with
    | .slice e => tiOf P e
    | _ => none
  | none => none
@[go_sem] theorem elemTI_some (P : Program) (a b : Nat) (e : TypeId) (z : List AV) : elemTI P (some ⟨a, b, .slice e, z⟩) = tiOf P e := rfl
def idxV (P : Program) (ti : Option TI) (x i : AV) : Res :=
  match ti, x, i with
  | some ti, .sl sz _ l, .int _ i => match ti.kind with
    | .slice e => match tiOf P e with
      | some te => if te.size = sz then some (0 ≤ i ∧ i < (l.length : Int), .rp (getE l i).cells) else none
      | none => none
    | _ => none
  | some ti, .own sz id off len, .int _ i => match ti.kind with
    | .slice e => match tiOf P e with
      | some te => if te.size = sz then some (0 ≤ i ∧ i < (len : Int), .ptr id (off + i.toNat) 0) else none
      | none => none
    | _ => none
  | some ti, .ptr id idx off, .int _ i => match ti.kind with
    | .array n e => match tiOf P e with
      | some te => some (0 ≤ i ∧ i < (n : Int), .ptr id idx (off + i.toNat * te.size))
      | none => none
    | _ => none
  | some ti, .rp cs, .int _ i => match ti.kind with
    | .array n e => match tiOf P e with
      | some te => some (0 ≤ i ∧ i < (n : Int), .rp (cs.drop (i.toNat * te.size)))
      | none => none
    | _ => none
  | _, _, _ => none
def szIs (x : Option TI) (sz : Nat) (r : Res) : Res := match x with
  | some te => if te.size = sz then r else none
  | none => none
@[go_sem] theorem szIs_some (a b : Nat) (kd : TK) (z : List AV) (r : Res) : szIs (some ⟨a, b, kd, z⟩) a r = r := by simp [szIs]
def withSz (x : Option TI) (r : Nat → Res) : Res := match x with
  | some te => r te.size
  | none => none
@[go_sem] theorem withSz_some (a b : Nat) (kd : TK) (z : List AV) (r : Nat → Res) : withSz (some ⟨a, b, kd, z⟩) r = r a := rfl
@[go_sem] theorem idxV_sl (P : Program) (a b : Nat) (e : TypeId) (z : List AV) (sz : Nat) (tg : Bool) (l : List AV) (k : IntKind) (i : Int) :
    idxV P (some ⟨a, b, .slice e, z⟩) (.sl sz tg l) (.int k i) = szIs (tiOf P e) sz (some (0 ≤ i ∧ i < (l.length : Int), .rp (getE l i).cells)) := by
  simp only [idxV, szIs]
@[go_sem] theorem idxV_own (P : Program) (a b : Nat) (e : TypeId) (z : List AV) (sz id off len : Nat) (k : IntKind) (i : Int) :
    idxV P (some ⟨a, b, .slice e, z⟩) (.own sz id off len) (.int k i) = szIs (tiOf P e) sz (some (0 ≤ i ∧ i < (len : Int), .ptr id (off + i.toNat) 0)) := by
  simp only [idxV, szIs]
@[go_sem] theorem idxV_ptr (P : Program) (a b m : Nat) (e : TypeId) (z : List AV) (id idx off : Nat) (k : IntKind) (i : Int) :
    idxV P (some ⟨a, b, .array m e, z⟩) (.ptr id idx off) (.int k i) = withSz (tiOf P e) fun s => some (0 ≤ i ∧ i < (m : Int), .ptr id idx (off + i.toNat * s)) := by
  simp only [idxV, withSz]
@[go_sem] theorem idxV_rp (P : Program) (a b m : Nat) (e : TypeId) (z : List AV) (cs : List AV) (k : IntKind) (i : Int) :
    idxV P (some ⟨a, b, .array m e, z⟩) (.rp cs) (.int k i) = withSz (tiOf P e) fun s => some (0 ≤ i ∧ i < (m : Int), .rp (cs.drop (i.toNat * s))) := by
  simp only [idxV, withSz]

def indexV (P : Program) (ti : Option TI) (x i : AV) : Res :=
  match ti, x, i with
  | some ti, .str s, .int _ i => match ti.kind with
    | .string => some (0 ≤ i ∧ i < (s.size : Int), .int .u8 ((s.data.toList.getD i.toNat 0).toNat : Nat))
    | _ => none
  | some ti, .agg cs, .int _ i => match ti.kind with
    | .array n e => match tiOf P e with
      | some te => some (0 ≤ i ∧ i < (n : Int) ∧ i.toNat * te.size + te.size ≤ cs.length, pack te.kind.agg ((cs.drop (i.toNat * te.size)).take te.size))
      | none => none
    | _ => none
  | _, _, _ => none
/-- A text's bytes. -/
def by_ (s : ByteArray) : List UInt8 := s.data.toList
/-- A text's byte. -/
def bt (s : ByteArray) (p : Nat) : Nat := ((by_ s).getD p 0).toNat
@[go_sem] theorem indexV_str (P : Program) (a b : Nat) (z : List AV) (s : ByteArray) (k : IntKind) (i : Int) :
    indexV P (some ⟨a, b, .string, z⟩) (.str s) (.int k i) = some (0 ≤ i ∧ i < (s.size : Int), .int .u8 (bt s i.toNat : Nat)) := rfl
def aidx (x : Option TI) (n : Nat) (cs : List AV) (i : Int) : Res := match x with
  | some te => some (0 ≤ i ∧ i < (n : Int) ∧ i.toNat * te.size + te.size ≤ cs.length, pack te.kind.agg ((cs.drop (i.toNat * te.size)).take te.size))
  | none => none
@[go_sem] theorem aidx_some (a b : Nat) (kd : TK) (z : List AV) (n : Nat) (cs : List AV) (i : Int) : aidx (some ⟨a, b, kd, z⟩) n cs i = some (0 ≤ i ∧ i < (n : Int) ∧ i.toNat * a + a ≤ cs.length, pack kd.agg ((cs.drop (i.toNat * a)).take a)) := rfl
@[go_sem] theorem indexV_agg (P : Program) (a b m : Nat) (e : TypeId) (z : List AV) (cs : List AV) (k : IntKind) (i : Int) :
    indexV P (some ⟨a, b, .array m e, z⟩) (.agg cs) (.int k i) = aidx (tiOf P e) m cs i := by
  simp only [indexV, aidx]

def extrV (x : AV) (i : Nat) : Res := match x with
  | .tup cs => some (i < cs.length, cs.getD i .any)
  | _ => none
@[go_sem] theorem extrV_tup (cs : List AV) (i : Nat) : extrV (.tup cs) i = some (i < cs.length, cs.getD i .any) := rfl

/-- parts laid into cells, values already told -/
def fillV (place : Nat → Option (Nat × Nat)) : List (Nat × AV) → List AV → Option (List AV)
  | [], cs => some cs
  | (i, x) :: r, cs =>
    match place i with
    | none => none
    | some (off, size) => if x.shaped size && decide (off + size ≤ cs.length) then fillV place r (cs.take off ++ x.cells ++ cs.drop (off + size)) else none
theorem fillA_V (place : Nat → Option (Nat × Nat)) (ρ : Operand → AV) : ∀ (l : List (Nat × Operand)) (cs : List AV), fillA place ρ l cs = fillV place (l.map fun p => (p.1, ρ p.2)) cs
  | [], cs => rfl
  | (i, x) :: l, cs => by
    simp only [fillA, List.map_cons, fillV]
    cases place i with
    | none => rfl
    | some q =>
      obtain ⟨off, size⟩ := q
      simp only [fillA_V place ρ l]
def lay1 (p : Option (Nat × Nat)) (x : AV) (cs : List AV) : Option (List AV) := match p with
  | some (off, size) => if x.shaped size && decide (off + size ≤ cs.length) then some (cs.take off ++ x.cells ++ cs.drop (off + size)) else none
  | none => none
def layN (P : Program) (fs : List (Nat × TypeId)) : List (Nat × AV) → Option (List AV) → Option (List AV)
  | [], cs => cs
  | (i, x) :: r, some cs => layN P fs r (lay1 ((fs[i]?).bind fun p => (tiOf P p.2).map fun tf => (p.1, tf.size)) x cs)
  | _ :: _, none => none
theorem layN_fill (P : Program) (fs : List (Nat × TypeId)) : ∀ (l : List (Nat × AV)) (cs : List AV), fillV (fun i => (fs[i]?).bind fun p => (tiOf P p.2).map fun tf => (p.1, tf.size)) l cs = layN P fs l (some cs)
  | [], cs => rfl
  | (i, x) :: l, cs => by
    simp only [fillV, layN, lay1]
    cases (fs[i]?).bind fun p => (tiOf P p.2).map fun tf => (p.1, tf.size) with
    | none => cases l <;> rfl
    | some q =>
      obtain ⟨off, size⟩ := q
      simp only
      split
      · exact layN_fill P fs l _
      · cases l <;> rfl
@[go_sem] theorem layN_nil (P : Program) (fs : List (Nat × TypeId)) (cs : List AV) : layN P fs [] (some cs) = some cs := rfl
@[go_sem] theorem layN_cons (P : Program) (fs : List (Nat × TypeId)) (i : Nat) (x : AV) (r : List (Nat × AV)) (cs : List AV) : layN P fs ((i, x) :: r) (some cs) = layN P fs r (lay1 ((fs[i]?).bind fun p => (tiOf P p.2).map fun tf => (p.1, tf.size)) x cs) := rfl
@[go_sem] theorem lay1_some (off size : Nat) (x : AV) (cs : List AV) : lay1 (some (off, size)) x cs = if x.shaped size && decide (off + size ≤ cs.length) then some (cs.take off ++ x.cells ++ cs.drop (off + size)) else none := rfl
def buildV (P : Program) (x : Option TI) (parts : List (Nat × AV)) : Res := match x with
  | some ti => match ti.kind with
    | .struct fs => (layN P fs parts (some ti.zero)).map fun cs => (True, .agg cs)
    | .array _ e => match tiOf P e with
      | some te => (fillV (fun i => some (i * te.size, te.size)) parts ti.zero).map fun cs => (True, .agg cs)
      | none => none
    | _ => none
  | none => none
@[go_sem] theorem buildV_struct (P : Program) (a b : Nat) (fs : List (Nat × TypeId)) (z : List AV) (parts : List (Nat × AV)) : buildV P (some ⟨a, b, .struct fs, z⟩) parts = (layN P fs parts (some z)).map fun cs => (True, .agg cs) := rfl
@[go_sem] theorem shaped_agg (cs : List AV) (n : Nat) : (AV.agg cs).shaped n = (cs.length == n) := rfl
@[go_sem] theorem shaped_bool (b : Bool) (n : Nat) : (AV.bool b).shaped n = (n == 1) := by simp [AV.shaped, AV.sca]
@[go_sem] theorem shaped_int (k : IntKind) (m : Int) (n : Nat) : (AV.int k m).shaped n = (n == 1) := by simp [AV.shaped, AV.sca]
@[go_sem] theorem shaped_str (s : ByteArray) (n : Nat) : (AV.str s).shaped n = (n == 1) := by simp [AV.shaped, AV.sca]
@[go_sem] theorem shaped_sl (a : Nat) (b : Bool) (l : List AV) (n : Nat) : (AV.sl a b l).shaped n = (n == 1) := by simp [AV.shaped, AV.sca]
@[go_sem] theorem shaped_own (a b c d : Nat) (n : Nat) : (AV.own a b c d).shaped n = (n == 1) := by simp [AV.shaped, AV.sca]
@[go_sem] theorem shaped_ptr (a b c : Nat) (n : Nat) : (AV.ptr a b c).shaped n = (n == 1) := by simp [AV.shaped, AV.sca]
@[go_sem] theorem shaped_rp (cs : List AV) (n : Nat) : (AV.rp cs).shaped n = (n == 1) := by simp [AV.shaped, AV.sca]
@[go_sem] theorem shaped_fn (g : Fn) (a b : List AV) (n : Nat) : (AV.fn g a b).shaped n = (n == 1) := by simp [AV.shaped, AV.sca]
@[go_sem] theorem shaped_nilp (n : Nat) : (AV.nilp).shaped n = (n == 1) := by simp [AV.shaped, AV.sca]
@[go_sem] theorem cells_agg (cs : List AV) : (AV.agg cs).cells = cs := rfl
@[go_sem] theorem cells_bool (b : Bool) : (AV.bool b).cells = [.bool b] := rfl
@[go_sem] theorem cells_int (k : IntKind) (m : Int) : (AV.int k m).cells = [.int k m] := rfl
@[go_sem] theorem cells_str (s : ByteArray) : (AV.str s).cells = [.str s] := rfl
@[go_sem] theorem cells_sl (a : Nat) (b : Bool) (l : List AV) : (AV.sl a b l).cells = [.sl a b l] := rfl
@[go_sem] theorem cells_own (a b c d : Nat) : (AV.own a b c d).cells = [.own a b c d] := rfl
@[go_sem] theorem cells_ptr (a b c : Nat) : (AV.ptr a b c).cells = [.ptr a b c] := rfl
@[go_sem] theorem cells_rp (cs : List AV) : (AV.rp cs).cells = [.rp cs] := rfl
@[go_sem] theorem cells_fn (g : Fn) (a b : List AV) : (AV.fn g a b).cells = [.fn g a b] := rfl
@[go_sem] theorem cells_nilp : (AV.nilp).cells = [.nilp] := rfl
@[go_sem] theorem cells_any : (AV.any).cells = [.any] := rfl

@[go_sem] theorem lay_agg (cs : List AV) (off : Nat) (new : List AV) : (AV.agg cs).lay off new = .agg (cs.take off ++ new ++ cs.drop (off + new.length)) := rfl
@[go_sem] theorem lay_bool (b : Bool) (off : Nat) (v : AV) : (AV.bool b).lay off [v] = v := rfl
@[go_sem] theorem lay_int (k : IntKind) (m : Int) (off : Nat) (v : AV) : (AV.int k m).lay off [v] = v := rfl
@[go_sem] theorem lay_str (s : ByteArray) (off : Nat) (v : AV) : (AV.str s).lay off [v] = v := rfl
@[go_sem] theorem lay_sl (a : Nat) (b : Bool) (l : List AV) (off : Nat) (v : AV) : (AV.sl a b l).lay off [v] = v := rfl
@[go_sem] theorem lay_own (a b c d : Nat) (off : Nat) (v : AV) : (AV.own a b c d).lay off [v] = v := rfl
@[go_sem] theorem lay_ptr (a b c : Nat) (off : Nat) (v : AV) : (AV.ptr a b c).lay off [v] = v := rfl
@[go_sem] theorem lay_rp (cs : List AV) (off : Nat) (v : AV) : (AV.rp cs).lay off [v] = v := rfl
@[go_sem] theorem lay_fn (g : Fn) (a b : List AV) (off : Nat) (v : AV) : (AV.fn g a b).lay off [v] = v := rfl
@[go_sem] theorem lay_nilp (off : Nat) (v : AV) : (AV.nilp).lay off [v] = v := rfl

def nilckV (x : AV) : Res := match x with
  | .ptr id idx off => some (True, .ptr id idx off)
  | .rp cs => some (True, .rp cs)
  | _ => none
@[go_sem] theorem nilckV_ptr (id idx off : Nat) : nilckV (.ptr id idx off) = some (True, .ptr id idx off) := rfl
@[go_sem] theorem nilckV_rp (cs : List AV) : nilckV (.rp cs) = some (True, .rp cs) := rfl

/-- a bound of a slice expression -/
def bndV : Option AV → Option (Option Int)
  | none => some none
  | some (.int _ n) => some (some n)
  | _ => none
@[go_sem] theorem bndV_none : bndV none = some none := rfl
@[go_sem] theorem bndV_int (k : IntKind) (n : Int) : bndV (some (.int k n)) = some (some n) := rfl
def slV (P : Program) (x : Option TI) (v : AV) (lo hi mx : Option (Option Int)) : Res :=
  match x, lo, hi, mx with
  | some ti, some lo, some hi, some mx => match ti.kind, v with
    | .slice e, .sl sz tight l => match tiOf P e with
      | some te => if te.size = sz ∨ l = [] then (if mx.isSome && hi.isNone then none else sliceA (.sl sz tight l) lo hi mx) else none
      | none => none
    | .slice e, .own sz id off len => match tiOf P e with
      | some te => if te.size = sz then (if mx.isSome && hi.isNone then none else sliceA (.own sz id off len) lo hi mx) else none
      | none => none
    | .string, .str s => sliceA (.str s) lo hi mx
    | _, _ => none
  | _, _, _, _ => none
def szOr (x : Option TI) (sz : Nat) (l : List AV) (r : Res) : Res := match x with
  | some te => if te.size = sz ∨ l = [] then r else none
  | none => none
@[go_sem] theorem szOr_some (a b : Nat) (kd : TK) (z : List AV) (l : List AV) (r : Res) : szOr (some ⟨a, b, kd, z⟩) a l r = r := by simp [szOr]
@[go_sem] theorem szOr_nil (a b : Nat) (kd : TK) (z : List AV) (sz : Nat) (r : Res) : szOr (some ⟨a, b, kd, z⟩) sz [] r = r := by simp [szOr]
@[go_sem] theorem slV_sl (P : Program) (a b : Nat) (e : TypeId) (z : List AV) (sz : Nat) (tg : Bool) (l : List AV) (lo hi mx : Option Int) :
    slV P (some ⟨a, b, .slice e, z⟩) (.sl sz tg l) (some lo) (some hi) (some mx) = szOr (tiOf P e) sz l (if mx.isSome && hi.isNone then none else sliceA (.sl sz tg l) lo hi mx) := by
  simp only [slV, szOr]
@[go_sem] theorem slV_own (P : Program) (a b : Nat) (e : TypeId) (z : List AV) (sz id off len : Nat) (lo hi mx : Option Int) :
    slV P (some ⟨a, b, .slice e, z⟩) (.own sz id off len) (some lo) (some hi) (some mx) = szIs (tiOf P e) sz (if mx.isSome && hi.isNone then none else sliceA (.own sz id off len) lo hi mx) := by
  simp only [slV, szIs]
@[go_sem] theorem slV_str (P : Program) (a b : Nat) (z : List AV) (s : ByteArray) (lo hi mx : Option Int) : slV P (some ⟨a, b, .string, z⟩) (.str s) (some lo) (some hi) (some mx) = sliceA (.str s) lo hi mx := rfl
attribute [go_sem] sliceA mxOk

def lenV (x : Option TI) (v : AV) : Res := match x, v with
  | some ti, .str s => match ti.kind with
    | .string => some (True, .int .i64 s.size)
    | _ => none
  | some ti, .sl _ _ l => match ti.kind with
    | .slice _ => some (True, .int .i64 l.length)
    | _ => none
  | some ti, .own _ _ _ len => match ti.kind with
    | .slice _ => some (True, .int .i64 len)
    | _ => none
  | some ti, _ => match ti.kind with
    | .array n _ => some (True, .int .i64 n)
    | _ => none
  | _, _ => none
@[go_sem] theorem lenV_str (a b : Nat) (z : List AV) (s : ByteArray) : lenV (some ⟨a, b, .string, z⟩) (.str s) = some (True, .int .i64 s.size) := rfl
@[go_sem] theorem lenV_sl (a b : Nat) (e : TypeId) (z : List AV) (sz : Nat) (tg : Bool) (l : List AV) : lenV (some ⟨a, b, .slice e, z⟩) (.sl sz tg l) = some (True, .int .i64 l.length) := rfl
@[go_sem] theorem lenV_own (a b : Nat) (e : TypeId) (z : List AV) (sz id off len : Nat) : lenV (some ⟨a, b, .slice e, z⟩) (.own sz id off len) = some (True, .int .i64 len) := rfl
def maxV (x y : AV) : Res := match x, y with
  | .int k a, .int _ b => some (True, .int k (if b > a then b else a))
  | _, _ => none
def minV (x y : AV) : Res := match x, y with
  | .int k a, .int _ b => some (True, .int k (if b < a then b else a))
  | _, _ => none
@[go_sem] theorem maxV_int (k : IntKind) (a : Int) (k' : IntKind) (b : Int) : maxV (.int k a) (.int k' b) = some (True, .int k (if b > a then b else a)) := rfl
@[go_sem] theorem minV_int (k : IntKind) (a : Int) (k' : IntKind) (b : Int) : minV (.int k a) (.int k' b) = some (True, .int k (if b < a then b else a)) := rfl

def loadV (x : Option TI) (f : Nat → BS) (v : AV) : Res := match x, v with
  | some ti, .rp cs => some (ti.size ≤ cs.length ∧ (ti.kind.agg = true ∨ 0 < cs.length), pack ti.kind.agg (if ti.kind.agg then cs.take ti.size else cs))
  | some ti, .ptr id idx off => match f id with
    | .live _ l => let cs := (l.getD idx .any).cells.drop off
      some (idx < l.length ∧ ti.size ≤ cs.length ∧ (ti.kind.agg = true ∨ 0 < cs.length), pack ti.kind.agg (if ti.kind.agg then cs.take ti.size else cs))
    | _ => none
  | _, _ => none
def loadC (a : Nat) (g : Bool) (cs : List AV) : Res := some (a ≤ cs.length ∧ (g = true ∨ 0 < cs.length), pack g (if g then cs.take a else cs))
def loadL (a : Nat) (g : Bool) (b : BS) (idx off : Nat) : Res := match b with
  | .live _ l => some (idx < l.length ∧ a ≤ ((l.getD idx .any).cells.drop off).length ∧ (g = true ∨ 0 < ((l.getD idx .any).cells.drop off).length), pack g (if g then ((l.getD idx .any).cells.drop off).take a else (l.getD idx .any).cells.drop off))
  | _ => none
@[go_sem] theorem loadV_rp (a b : Nat) (kd : TK) (z : List AV) (f : Nat → BS) (cs : List AV) : loadV (some ⟨a, b, kd, z⟩) f (.rp cs) = loadC a kd.agg cs := rfl
@[go_sem] theorem loadV_ptr (a b : Nat) (kd : TK) (z : List AV) (f : Nat → BS) (id idx off : Nat) : loadV (some ⟨a, b, kd, z⟩) f (.ptr id idx off) = loadL a kd.agg (f id) idx off := by
  simp only [loadV, loadL]
@[go_sem] theorem loadC_agg (a : Nat) (cs : List AV) : loadC a true cs = some (a ≤ cs.length, .agg (cs.take a)) := by simp [loadC, pack]
@[go_sem] theorem loadC_one (c : AV) (cs : List AV) : loadC 1 false (c :: cs) = some (True, c) := by simp [loadC, pack]
@[go_sem] theorem loadL_agg (a sz : Nat) (l : List AV) (idx off : Nat) : loadL a true (.live sz l) idx off = some (idx < l.length ∧ a ≤ ((l.getD idx .any).cells.drop off).length, .agg (((l.getD idx .any).cells.drop off).take a)) := by simp [loadL, pack]
@[go_sem] theorem loadL_one (sz : Nat) (l : List AV) (idx off : Nat) : loadL 1 false (.live sz l) idx off = some (idx < l.length ∧ 0 < ((l.getD idx .any).cells.drop off).length, ((l.getD idx .any).cells.drop off).headD .any) := by
  simp only [loadL, pack, Bool.false_eq_true, if_false, false_or]
  congr 2
  simp only [eq_iff_iff]
  omega

def boxV (x : Option TI) (id : Nat) (v : AV) : Option (Prop × AV × BS) := x.bind fun ti => if v.shaped ti.size then some (True, .ptr id 0 0, .live ti.size [v]) else none
@[go_sem] theorem boxV_some (a b : Nat) (kd : TK) (z : List AV) (id : Nat) (v : AV) : boxV (some ⟨a, b, kd, z⟩) id v = if v.shaped a then some (True, .ptr id 0 0, .live a [v]) else none := rfl
def allocV (x : Option TI) (id : Nat) : Option (Prop × AV × BS) := x.map fun ti => (True, .ptr id 0 0, .live ti.size [ti.zval])
@[go_sem] theorem allocV_some (a b : Nat) (kd : TK) (z : List AV) (id : Nat) : allocV (some ⟨a, b, kd, z⟩) id = some (True, .ptr id 0 0, .live a [pack kd.agg z]) := rfl
def bslV (P : Program) (x : Option TI) (id len : Nat) (idxs : List Nat) (vs : List AV) : Option (Prop × AV × BS) := match elemTI P x with
  | some te => if idxs = List.range len ∧ (vs.all fun v => v.shaped te.size) = true ∧ len * te.size ≤ 16777216 then some (True, .own te.size id 0 len, .live te.size vs) else none
  | none => none
def bslE (x : Option TI) (id len : Nat) (idxs : List Nat) (vs : List AV) : Option (Prop × AV × BS) := match x with
  | some te => if idxs = List.range len ∧ (vs.all fun v => v.shaped te.size) = true ∧ len * te.size ≤ 16777216 then some (True, .own te.size id 0 len, .live te.size vs) else none
  | none => none
@[go_sem] theorem bslV_some (P : Program) (a b : Nat) (e : TypeId) (z : List AV) (id len : Nat) (idxs : List Nat) (vs : List AV) : bslV P (some ⟨a, b, .slice e, z⟩) id len idxs vs = bslE (tiOf P e) id len idxs vs := rfl
@[go_sem] theorem bslE_some (a b : Nat) (kd : TK) (z : List AV) (id len : Nat) (idxs : List Nat) (vs : List AV) : bslE (some ⟨a, b, kd, z⟩) id len idxs vs = if idxs = List.range len ∧ (vs.all fun v => v.shaped a) = true ∧ len * a ≤ 16777216 then some (True, .own a id 0 len, .live a vs) else none := rfl
def mkV (P : Program) (x : Option TI) (id : Nat) (l c : AV) : Option (Prop × AV × BS) := match x, l, c with
  | some ti, .int _ n, .int _ m => match ti.kind with
    | .slice e => match tiOf P e with
      | some te => some (0 ≤ n ∧ n ≤ m ∧ (te.bytes : Int) * m ≤ 281474976710656 ∧ m ≤ 9223372036854775807, .own te.size id 0 n.toNat, .live te.size (List.replicate n.toNat te.zval))
      | none => none
    | _ => none
  | _, _, _ => none
def mkE (x : Option TI) (id : Nat) (n m : Int) : Option (Prop × AV × BS) := match x with
  | some te => some (0 ≤ n ∧ n ≤ m ∧ (te.bytes : Int) * m ≤ 281474976710656 ∧ m ≤ 9223372036854775807, .own te.size id 0 n.toNat, .live te.size (List.replicate n.toNat te.zval))
  | none => none
@[go_sem] theorem mkV_some (P : Program) (a b : Nat) (e : TypeId) (z : List AV) (id : Nat) (k k' : IntKind) (n m : Int) : mkV P (some ⟨a, b, .slice e, z⟩) id (.int k n) (.int k' m) = mkE (tiOf P e) id n m := by
  simp only [mkV, mkE]
@[go_sem] theorem mkE_some (a b : Nat) (kd : TK) (z : List AV) (id : Nat) (n m : Int) : mkE (some ⟨a, b, kd, z⟩) id n m = some (0 ≤ n ∧ n ≤ m ∧ (b : Int) * m ≤ 281474976710656 ∧ m ≤ 9223372036854775807, .own a id 0 n.toNat, .live a (List.replicate n.toNat (pack kd.agg z))) := rfl

def calV (x : AV) (args : List AV) : Option (FuncId × List AV) := match x with
  | .fn (.func g) fs cap => some (g, fs ++ args ++ cap)
  | _ => none
@[go_sem] theorem calV_fn (g : FuncId) (fs cap args : List AV) : calV (.fn (.func g) fs cap) args = some (g, fs ++ args ++ cap) := rfl

section
variable {P : Program} {zm : Bool} {ne : Nat} {Q : AEx → St → Prop} {k : List Itm} {t : Nat → AV} {f : Nat → BS} {n : Nat}
/-- Behind a store. -/
def goSt (P : Program) (zm : Bool) (ne : Nat) (Q : AEx → St → Prop) (ti : Option TI) (b : BS) (i idx off : Nat) (v : AV) (d : Option Tmp) (k : List Itm) (t : Nat → AV) (f : Nat → BS) (n : Nat) : Prop :=
  match ti, b with
  | some ti, .live sz l => v.shaped ti.size = true ∧ idx < l.length ∧ off + ti.size ≤ (l.getD idx .any).cells.length ∧ 0 < ti.size ∧ go P zm ne Q k (putA t d .any) (upd f i (.live sz (l.set idx ((l.getD idx .any).lay off v.cells)))) n
  | _, _ => False
@[go_sem] theorem goSt_some {a b : Nat} {kd : TK} {z : List AV} {sz : Nat} {l : List AV} {i idx off : Nat} {v : AV} {d : Option Tmp} :
    goSt P zm ne Q (some ⟨a, b, kd, z⟩) (.live sz l) i idx off v d k t f n = (v.shaped a = true ∧ idx < l.length ∧ off + a ≤ (l.getD idx .any).cells.length ∧ 0 < a ∧ go P zm ne Q k (putA t d .any) (upd f i (.live sz (l.set idx ((l.getD idx .any).lay off v.cells)))) n) := rfl
def goSp (P : Program) (zm : Bool) (ne : Nat) (Q : AEx → St → Prop) (ti : Option TI) (x v : AV) (d : Option Tmp) (k : List Itm) (t : Nat → AV) (f : Nat → BS) (n : Nat) : Prop :=
  match x with
  | .ptr i idx off => goSt P zm ne Q ti (f i) i idx off v d k t f n
  | _ => False
@[go_sem] theorem goSp_ptr {ti : Option TI} {i idx off : Nat} {v : AV} {d : Option Tmp} : goSp P zm ne Q ti (.ptr i idx off) v d k t f n = goSt P zm ne Q ti (f i) i idx off v d k t f n := rfl
/-- Behind an append. -/
def goAp (P : Program) (zm : Bool) (ne : Nat) (Q : AEx → St → Prop) (id : Nat) (te : Option TI) (x y : AV) (d : Option Tmp) (k : List Itm) (t : Nat → AV) (f : Nat → BS) (n : Nat) : Prop :=
  match te, x, elemsA f y with
  | some te, .own sz i off len, some new => match f i with
    | .live _ l => (te.size = sz ∧ (szA y = sz ∨ new = []) ∧ 0 < sz ∧ 0 < te.bytes) ∧ fitsA f y ∧ off + len ≤ l.length ∧ ((len + new.length : Nat) : Int) * te.bytes ≤ 70368744177664 ∧
        go P zm ne Q k (putA t d (.own sz id 0 (len + new.length))) (upd (upd f i .dead) id (.live sz ((l.drop off).take len ++ new))) n
    | _ => False
  | some te, .sl sz tight l, some new =>
    tight = true ∧ ((te.size = sz ∨ l = []) ∧ (szA y = te.size ∨ new = []) ∧ 0 < te.size ∧ 0 < te.bytes ∧ (l = [] ∨ new ≠ [])) ∧ fitsA f y ∧ ((l.length + new.length : Nat) : Int) * te.bytes ≤ 70368744177664 ∧
        go P zm ne Q k (putA t d (.own te.size id 0 (l.length + new.length))) (upd f id (.live te.size (l ++ new))) n
  | _, _, _ => False
def goApO (P : Program) (zm : Bool) (ne : Nat) (Q : AEx → St → Prop) (id i off len sz a b : Nat) (blk : BS) (y : AV) (new : List AV) (d : Option Tmp) (k : List Itm) (t : Nat → AV) (f : Nat → BS) (n : Nat) : Prop :=
  match blk with
  | .live _ l => (a = sz ∧ (szA y = sz ∨ new = []) ∧ 0 < sz ∧ 0 < b) ∧ fitsA f y ∧ off + len ≤ l.length ∧ ((len + new.length : Nat) : Int) * b ≤ 70368744177664 ∧
        go P zm ne Q k (putA t d (.own sz id 0 (len + new.length))) (upd (upd f i .dead) id (.live sz ((l.drop off).take len ++ new))) n
  | _ => False
@[go_sem] theorem goApO_live {id i off len sz a b s' : Nat} {l : List AV} {y : AV} {new : List AV} {d : Option Tmp} : goApO P zm ne Q id i off len sz a b (.live s' l) y new d k t f n = ((a = sz ∧ (szA y = sz ∨ new = []) ∧ 0 < sz ∧ 0 < b) ∧ fitsA f y ∧ off + len ≤ l.length ∧ ((len + new.length : Nat) : Int) * b ≤ 70368744177664 ∧
        go P zm ne Q k (putA t d (.own sz id 0 (len + new.length))) (upd (upd f i .dead) id (.live sz ((l.drop off).take len ++ new))) n) := rfl
/-- a source of known elements -/
def goApS (P : Program) (zm : Bool) (ne : Nat) (Q : AEx → St → Prop) (id : Nat) (te : Option TI) (x y : AV) (src : Option (List AV)) (d : Option Tmp) (k : List Itm) (t : Nat → AV) (f : Nat → BS) (n : Nat) : Prop :=
  match te, x, src with
  | some te, .own sz i off len, some new => goApO P zm ne Q id i off len sz te.size te.bytes (f i) y new d k t f n
  | some te, .sl sz tight l, some new =>
    tight = true ∧ ((te.size = sz ∨ l = []) ∧ (szA y = te.size ∨ new = []) ∧ 0 < te.size ∧ 0 < te.bytes ∧ (l = [] ∨ new ≠ [])) ∧ fitsA f y ∧ ((l.length + new.length : Nat) : Int) * te.bytes ≤ 70368744177664 ∧
        go P zm ne Q k (putA t d (.own te.size id 0 (l.length + new.length))) (upd f id (.live te.size (l ++ new))) n
  | _, _, _ => False
theorem goAp_S {id : Nat} {te : Option TI} {x y : AV} {d : Option Tmp} : goAp P zm ne Q id te x y d k t f n = goApS P zm ne Q id te x y (elemsA f y) d k t f n := by
  unfold goAp goApS
  cases te <;> cases x <;> cases elemsA f y <;> simp only [goApO]
@[go_sem] theorem goApS_own {id : Nat} {a b : Nat} {kd : TK} {z : List AV} {sz i off len : Nat} {y : AV} {new : List AV} {d : Option Tmp} :
    goApS P zm ne Q id (some ⟨a, b, kd, z⟩) (.own sz i off len) y (some new) d k t f n = goApO P zm ne Q id i off len sz a b (f i) y new d k t f n := rfl
@[go_sem] theorem goApS_sl {id : Nat} {a b : Nat} {kd : TK} {z : List AV} {sz : Nat} {tg : Bool} {l : List AV} {y : AV} {new : List AV} {d : Option Tmp} :
    goApS P zm ne Q id (some ⟨a, b, kd, z⟩) (.sl sz tg l) y (some new) d k t f n = (tg = true ∧ ((a = sz ∨ l = []) ∧ (szA y = a ∨ new = []) ∧ 0 < a ∧ 0 < b ∧ (l = [] ∨ new ≠ [])) ∧ fitsA f y ∧ ((l.length + new.length : Nat) : Int) * b ≤ 70368744177664 ∧
        go P zm ne Q k (putA t d (.own a id 0 (l.length + new.length))) (upd f id (.live a (l ++ new))) n) := rfl
def elemsB (b : BS) (off len : Nat) : Option (List AV) := match b with
  | .live _ l => some ((l.drop off).take len)
  | _ => none
@[go_sem] theorem elemsA_sl (sz : Nat) (tg : Bool) (l : List AV) : elemsA f (.sl sz tg l) = some l := rfl
@[go_sem] theorem elemsA_own (sz id off len : Nat) : elemsA f (.own sz id off len) = elemsB (f id) off len := rfl
@[go_sem] theorem elemsB_live (sz off len : Nat) (l : List AV) : elemsB (.live sz l) off len = some ((l.drop off).take len) := rfl
def fitsB (b : BS) (off len : Nat) : Prop := match b with
  | .live _ l => off + len ≤ l.length
  | _ => False
@[go_sem] theorem fitsA_sl (sz : Nat) (tg : Bool) (l : List AV) : fitsA f (.sl sz tg l) = True := rfl
@[go_sem] theorem fitsA_own (sz id off len : Nat) : fitsA f (.own sz id off len) = fitsB (f id) off len := rfl
@[go_sem] theorem fitsB_live (sz off len : Nat) (l : List AV) : fitsB (.live sz l) off len = (off + len ≤ l.length) := rfl
@[go_sem] theorem convV_own (P : Program) (f : Nat → BS) (a b : Nat) (e : TypeId) (z : List AV) (a' b' : Nat) (z' : List AV) (sz id off len : Nat) : convV P f (some ⟨a, b, .slice e, z⟩) (some ⟨a', b', .string, z'⟩) (.own sz id off len) = strV (byteK (tiOf P e)) (elemsB (f id) off len) (sz = 1 ∧ fitsB (f id) off len) := rfl
@[go_sem] theorem szA_sl (sz : Nat) (tg : Bool) (l : List AV) : szA (.sl sz tg l) = sz := rfl
@[go_sem] theorem szA_own (sz id off len : Nat) : szA (.own sz id off len) = sz := rfl

variable {yl q : Bool} {O : Array Oper} {n0 i : Nat} {r : List Oper} {d : Option Tmp} {ty : TypeId} {pos : String} {after : Array Edge}
@[go_sem] theorem go_move {x : Operand} : go P zm ne Q (.ops yl q O n0 i (⟨d, .move x, ty, pos, after, none⟩ :: r) :: k) t f n = go P zm ne Q (.ops yl q O n0 (i + 1) r :: k) (putA t d (aev t x)) f n := by rw [go_v rfl]; simp only [vop, goV_true]
@[go_sem] theorem go_assign {x : Operand} : go P zm ne Q (.ops yl q O n0 i (⟨d, .assign x, ty, pos, after, none⟩ :: r) :: k) t f n = go P zm ne Q (.ops yl q O n0 (i + 1) r :: k) (putA t d (aev t x)) f n := by rw [go_v rfl]; simp only [vop, goV_true]
@[go_sem] theorem go_pick {a b c : Operand} : go P zm ne Q (.ops yl q O n0 i (⟨d, .pick c a b, ty, pos, after, none⟩ :: r) :: k) t f n = goV P zm ne Q (pickA (aev t c) (aev t a) (aev t b)) d (.ops yl q O n0 (i + 1) r :: k) t f n := by rw [go_v rfl]; rfl
@[go_sem] theorem go_unOp {op : UnOp} {ty' : TypeId} {x : Operand} : go P zm ne Q (.ops yl q O n0 i (⟨d, .unOp op ty' x, ty, pos, after, none⟩ :: r) :: k) t f n = goV P zm ne Q (unA op (aev t x)) d (.ops yl q O n0 (i + 1) r :: k) t f n := by rw [go_v rfl]; rfl
@[go_sem] theorem go_binOp {op : BinOp} {ty' ty2 : TypeId} {x y : Operand} : go P zm ne Q (.ops yl q O n0 i (⟨d, .binOp op ty' x y ty2, ty, pos, after, none⟩ :: r) :: k) t f n = goV P zm ne Q (binV P op ty' (aev t x) (aev t y)) d (.ops yl q O n0 (i + 1) r :: k) t f n := by rw [go_v rfl]; rfl
@[go_sem] theorem go_convert {a b : TypeId} {x : Operand} : go P zm ne Q (.ops yl q O n0 i (⟨d, .convert a b x, ty, pos, after, none⟩ :: r) :: k) t f n = goV P zm ne Q (convV P (fz (yl && q) f) (tiOf P a) (tiOf P b) (aev t x)) d (.ops yl q O n0 (i + 1) r :: k) t f n := by rw [go_r rfl]; rfl
@[go_sem] theorem go_makeFunc {fn : Fn} {a b : Array Operand} : go P zm ne Q (.ops yl q O n0 i (⟨d, .makeFunc fn a b, ty, pos, after, none⟩ :: r) :: k) t f n = go P zm ne Q (.ops yl q O n0 (i + 1) r :: k) (putA t d (.fn fn (a.toList.map (aev t)) (b.toList.map (aev t)))) f n := by rw [go_v rfl]; simp only [vop, goV_true]
@[go_sem] theorem go_fieldAddr {s : TypeId} {x : Operand} {j : Nat} : go P zm ne Q (.ops yl q O n0 i (⟨d, .fieldAddr s x j, ty, pos, after, none⟩ :: r) :: k) t f n = goV P zm ne Q (faddrV P (fieldOff (tiOf P s) j) (aev t x)) d (.ops yl q O n0 (i + 1) r :: k) t f n := by
  rw [go_v rfl]; simp only [vop, faddrV, fieldOff]
  cases tiOf P s with
  | none => rfl
  | some ti => obtain ⟨a, b, kd, z⟩ := ti; cases kd <;> rfl
@[go_sem] theorem go_field {s : TypeId} {x : Operand} {j : Nat} : go P zm ne Q (.ops yl q O n0 i (⟨d, .field s x j, ty, pos, after, none⟩ :: r) :: k) t f n = goV P zm ne Q (fieldV P (fieldOff (tiOf P s) j) (aev t x)) d (.ops yl q O n0 (i + 1) r :: k) t f n := by
  rw [go_v rfl]; simp only [vop, fieldV, fieldOff]
  cases tiOf P s with
  | none => rfl
  | some ti => obtain ⟨a, b, kd, z⟩ := ti; cases kd <;> rfl
@[go_sem] theorem go_indexAddr {s : TypeId} {x j : Operand} : go P zm ne Q (.ops yl q O n0 i (⟨d, .indexAddr s x j, ty, pos, after, none⟩ :: r) :: k) t f n = goV P zm ne Q (idxV P (tiOf P s) (aev t x) (aev t j)) d (.ops yl q O n0 (i + 1) r :: k) t f n := by rw [go_v rfl]; rfl
@[go_sem] theorem go_index {s : TypeId} {x j : Operand} : go P zm ne Q (.ops yl q O n0 i (⟨d, .index s x j, ty, pos, after, none⟩ :: r) :: k) t f n = goV P zm ne Q (indexV P (tiOf P s) (aev t x) (aev t j)) d (.ops yl q O n0 (i + 1) r :: k) t f n := by rw [go_v rfl]; rfl
@[go_sem] theorem go_extract {x : Operand} {j : Nat} : go P zm ne Q (.ops yl q O n0 i (⟨d, .extract x j, ty, pos, after, none⟩ :: r) :: k) t f n = goV P zm ne Q (extrV (aev t x) j) d (.ops yl q O n0 (i + 1) r :: k) t f n := by rw [go_v rfl]; rfl
@[go_sem] theorem go_build {s : TypeId} {ps : Array (Nat × Operand)} : go P zm ne Q (.ops yl q O n0 i (⟨d, .build s ps, ty, pos, after, none⟩ :: r) :: k) t f n = goV P zm ne Q (buildV P (tiOf P s) (ps.toList.map fun p => (p.1, aev t p.2))) d (.ops yl q O n0 (i + 1) r :: k) t f n := by
  rw [go_v rfl]; simp only [vop, buildV]
  cases tiOf P s with
  | none => rfl
  | some ti => obtain ⟨a, b, kd, z⟩ := ti; cases kd <;> simp only [fillA_V, layN_fill] <;> rfl
@[go_sem] theorem go_nilCheck {x : Operand} : go P zm ne Q (.ops yl q O n0 i (⟨d, .nilCheck x, ty, pos, after, none⟩ :: r) :: k) t f n = goV P zm ne Q (nilckV (aev t x)) d (.ops yl q O n0 (i + 1) r :: k) t f n := by rw [go_v rfl]; rfl
@[go_sem] theorem go_slice {s : TypeId} {x : Operand} {lo hi mx : Option Operand} : go P zm ne Q (.ops yl q O n0 i (⟨d, .slice s x lo hi mx, ty, pos, after, none⟩ :: r) :: k) t f n = goV P zm ne Q (slV P (tiOf P s) (aev t x) (bndV (lo.map (aev t))) (bndV (hi.map (aev t))) (bndV (mx.map (aev t)))) d (.ops yl q O n0 (i + 1) r :: k) t f n := by
  rw [go_v rfl]
  have h : ∀ o : Option Operand, optInt (aev t) o = bndV (o.map (aev t)) := by
    intro o
    cases o with
    | none => rfl
    | some x => simp only [optInt, Option.map_some]; cases aev t x <;> rfl
  simp only [vop, slV, h]
  rfl
@[go_sem] theorem go_len {s : TypeId} {x : Operand} : go P zm ne Q (.ops yl q O n0 i (⟨d, .call ⟨.builtin .len, #[x], #[s]⟩, ty, pos, after, none⟩ :: r) :: k) t f n = goV P zm ne Q (lenV (tiOf P s) (aev t x)) d (.ops yl q O n0 (i + 1) r :: k) t f n := by rw [go_v rfl]; rfl
@[go_sem] theorem go_max {x y : Operand} {ts : Array TypeId} : go P zm ne Q (.ops yl q O n0 i (⟨d, .call ⟨.builtin .max, #[x, y], ts⟩, ty, pos, after, none⟩ :: r) :: k) t f n = goV P zm ne Q (maxV (aev t x) (aev t y)) d (.ops yl q O n0 (i + 1) r :: k) t f n := by rw [go_v rfl]; rfl
@[go_sem] theorem go_min {x y : Operand} {ts : Array TypeId} : go P zm ne Q (.ops yl q O n0 i (⟨d, .call ⟨.builtin .min, #[x, y], ts⟩, ty, pos, after, none⟩ :: r) :: k) t f n = goV P zm ne Q (minV (aev t x) (aev t y)) d (.ops yl q O n0 (i + 1) r :: k) t f n := by rw [go_v rfl]; rfl
@[go_sem] theorem fz_f (f : Nat → BS) : fz (false && q) f = f := rfl
@[go_sem] theorem fz_ff (f : Nat → BS) : fz false f = f := rfl
@[go_sem] theorem fz_tf (f : Nat → BS) : fz (true && false) f = f := rfl
@[go_sem] theorem fz_tt (f : Nat → BS) : fz (true && true) f = fun _ => .dead := rfl
@[go_sem] theorem fz_t (f : Nat → BS) : fz true f = fun _ => .dead := rfl
@[go_sem] theorem go_load {s : TypeId} {x : Operand} : go P zm ne Q (.ops yl q O n0 i (⟨d, .load s x, ty, pos, after, none⟩ :: r) :: k) t f n = goV P zm ne Q (loadV (tiOf P s) (fz (yl && q) f) (aev t x)) d (.ops yl q O n0 (i + 1) r :: k) t f n := by rw [go_r rfl]; rfl
@[go_sem] theorem go_alloc {s : TypeId} : go P zm ne Q (.ops yl q O n0 i (⟨d, .alloc s, ty, pos, after, none⟩ :: r) :: k) t f n = goG P zm ne Q (n0 + i) (allocV (tiOf P s) (n0 + i)) d (.ops yl q O n0 (i + 1) r :: k) t f n := by rw [go_g rfl]; rfl
@[go_sem] theorem go_box {s : TypeId} {x : Operand} : go P zm ne Q (.ops yl q O n0 i (⟨d, .box s x, ty, pos, after, none⟩ :: r) :: k) t f n = goG P zm ne Q (n0 + i) (boxV (tiOf P s) (n0 + i) (aev t x)) d (.ops yl q O n0 (i + 1) r :: k) t f n := by rw [go_g rfl]; rfl
@[go_sem] theorem go_buildSlice {s : TypeId} {len : Nat} {ps : Array (Nat × Operand)} : go P zm ne Q (.ops yl q O n0 i (⟨d, .buildSlice s len ps, ty, pos, after, none⟩ :: r) :: k) t f n = goG P zm ne Q (n0 + i) (bslV P (tiOf P s) (n0 + i) len (ps.toList.map (·.1)) (ps.toList.map fun p => aev t p.2)) d (.ops yl q O n0 (i + 1) r :: k) t f n := by
  rw [go_g rfl]; simp only [gop, bslV, elemTI, List.all_map]
  cases tiOf P s with
  | none => rfl
  | some ti => obtain ⟨a, b, kd, z⟩ := ti; cases kd <;> rfl
@[go_sem] theorem go_makeSlice {s : TypeId} {l c : Operand} : go P zm ne Q (.ops yl q O n0 i (⟨d, .makeSlice s l c, ty, pos, after, none⟩ :: r) :: k) t f n = goG P zm ne Q (n0 + i) (mkV P (tiOf P s) (n0 + i) (aev t l) (aev t c)) d (.ops yl q O n0 (i + 1) r :: k) t f n := by rw [go_g rfl]; rfl
theorem go_l {op : Op} (h : clsOf op = .l) : go P zm ne Q (.ops yl q O n0 i (⟨d, op, ty, pos, after, none⟩ :: r) :: k) t f n = lop P (n0 + i) f (aev t) (fun v f' => go P zm ne Q (.ops yl q O n0 (i + 1) r :: k) (putA t d v) f' n) op := by
  simp only [go, goS, aops, aop, h]
@[go_sem] theorem go_store {s : TypeId} {x y : Operand} : go P zm ne Q (.ops yl q O n0 i (⟨d, .store s x y, ty, pos, after, none⟩ :: r) :: k) t f n = goSp P zm ne Q (tiOf P s) (aev t x) (aev t y) d (.ops yl q O n0 (i + 1) r :: k) t f n := by
  rw [go_l rfl]; simp only [lop, goSp, goSt]
  cases tiOf P s <;> cases aev t x <;> first | rfl | (simp only; cases f _ <;> rfl)
/-- Behind a range over a string. -/
def goRg (P : Program) (zm : Bool) (ne : Nat) (Q : AEx → St → Prop) (id : Nat) (x : Option TI) (v : AV) (d : Option Tmp) (k : List Itm) (t : Nat → AV) (f : Nat → BS) (n : Nat) : Prop :=
  match x, v with
  | some ti, .str s => match ti.kind with
    | .string => go P zm ne Q k (putA t d (.ptr id 0 0)) (upd f id (.iter s 0)) n
    | _ => False
  | _, _ => False
@[go_sem] theorem goRg_str {id a b : Nat} {z : List AV} {s : ByteArray} : goRg P zm ne Q id (some ⟨a, b, .string, z⟩) (.str s) d k t f n = go P zm ne Q k (putA t d (.ptr id 0 0)) (upd f id (.iter s 0)) n := rfl
@[go_sem] theorem go_range {s : TypeId} {x : Operand} : go P zm ne Q (.ops yl q O n0 i (⟨d, .range s x, ty, pos, after, none⟩ :: r) :: k) t f n = goRg P zm ne Q (n0 + i) (tiOf P s) (aev t x) d (.ops yl q O n0 (i + 1) r :: k) t f n := by
  rw [go_l rfl]; rfl
/-- Behind the next rune of a string. -/
def goNx (P : Program) (zm : Bool) (ne : Nat) (Q : AEx → St → Prop) (i : Nat) (b : BS) (d : Option Tmp) (k : List Itm) (t : Nat → AV) (f : Nat → BS) (n : Nat) : Prop :=
  match b with
  | .iter s p => (p < s.size → go P zm ne Q k (putA t d (.tup [.bool true, .int .i64 p, .int .i32 (Utf8.decode s p).1])) (upd f i (.iter s (p + (Utf8.decode s p).2))) n) ∧ (¬ p < s.size → go P zm ne Q k (putA t d (.tup [.bool false])) f n)
  | _ => False
@[go_sem] theorem goNx_iter {j : Nat} {s : ByteArray} {p : Nat} : goNx P zm ne Q j (.iter s p) d k t f n = ((p < s.size → go P zm ne Q k (putA t d (.tup [.bool true, .int .i64 p, .int .i32 (Utf8.decode s p).1])) (upd f j (.iter s (p + (Utf8.decode s p).2))) n) ∧ (¬ p < s.size → go P zm ne Q k (putA t d (.tup [.bool false])) f n)) := rfl
def goNp (P : Program) (zm : Bool) (ne : Nat) (Q : AEx → St → Prop) (v : AV) (d : Option Tmp) (k : List Itm) (t : Nat → AV) (f : Nat → BS) (n : Nat) : Prop :=
  match v with
  | .ptr i 0 0 => goNx P zm ne Q i (f i) d k t f n
  | _ => False
@[go_sem] theorem goNp_ptr {j : Nat} : goNp P zm ne Q (.ptr j 0 0) d k t f n = goNx P zm ne Q j (f j) d k t f n := rfl
@[go_sem] theorem go_next {x : Operand} : go P zm ne Q (.ops yl q O n0 i (⟨d, .next x true, ty, pos, after, none⟩ :: r) :: k) t f n = goNp P zm ne Q (aev t x) d (.ops yl q O n0 (i + 1) r :: k) t f n := by
  rw [go_l rfl]
  simp only [lop]
  generalize aev t x = v
  cases v <;> try rfl
  rename_i j a b
  rcases a with _ | a <;> rcases b with _ | b <;> try rfl
  simp only [goNp, goNx]
  cases f j <;> try rfl
  simp only [true_and]
  split <;> simp [*]
/-- of a slice's type -/
def slK (x : Option TI) (p : Prop) : Prop := match x with
  | some ti => match ti.kind with
    | .slice _ => p
    | _ => False
  | none => False
@[go_sem] theorem slK_some {a b : Nat} {e : TypeId} {z : List AV} {p : Prop} : slK (some ⟨a, b, .slice e, z⟩) p = p := rfl
@[go_sem] theorem go_append {s s' : TypeId} {x y : Operand} : go P zm ne Q (.ops yl q O n0 i (⟨d, .call ⟨.builtin .append, #[x, y], #[s, s']⟩, ty, pos, after, none⟩ :: r) :: k) t f n =
    slK (tiOf P s') (goApS P zm ne Q (n0 + i) (elemTI P (tiOf P s)) (aev t x) (aev t y) (elemsA f (aev t y)) d (.ops yl q O n0 (i + 1) r :: k) t f n) := by
  rw [go_l rfl, ← goAp_S]
  simp only [lop]
  cases tiOf P s with
  | none => cases tiOf P s' with
    | none => rfl
    | some ti' => obtain ⟨a', b', kd', z'⟩ := ti'; cases kd' <;> simp [slK, goAp, elemTI]
  | some ti =>
    obtain ⟨a, b, kd, z⟩ := ti
    cases tiOf P s' with
    | none => cases kd <;> rfl
    | some ti' =>
      obtain ⟨a', b', kd', z'⟩ := ti'
      cases kd' <;> cases kd <;> simp only [slK, goAp, elemTI] <;> first | rfl | (rename_i e' e; cases tiOf P e <;> cases aev t x <;> cases elemsA f (aev t y) <;> rfl)

def goGs (P : Program) (zm : Bool) (ne : Nat) (Q : AEx → St → Prop) (x : Option Tmp) (want : Bool) (d : Option Tmp) (k1 k2 : List Itm) (t : Nat → AV) (f : Nat → BS) (n : Nat) : Prop := match x with
  | some e => goGd P zm ne Q (t e) e want d k1 k2 t f n
  | none => False
@[go_sem] theorem goGs_some {e : Tmp} {want : Bool} {k1 k2 : List Itm} : goGs P zm ne Q (some e) want d k1 k2 t f n = goGd P zm ne Q (t e) e want d k1 k2 t f n := rfl
@[go_sem] theorem go_guarded {op : Op} {j : Nat} {want : Bool} : go P zm ne Q (.ops yl q O n0 i (⟨d, op, ty, pos, after, some (j, want)⟩ :: r) :: k) t f n =
    goGs P zm ne Q ((O[j]?).bind (·.dst)) want d (.ops yl q O n0 i (⟨d, op, ty, pos, after, none⟩ :: r) :: k) (.ops yl q O n0 (i + 1) r :: k) t f n := by
  cases h : gslot O j with
  | none =>
    simp only [go, goS, aops, h]
    unfold gslot at h
    rw [h]; rfl
  | some e =>
    rw [go_guard h]
    unfold gslot at h
    rw [h]; rfl
@[go_sem] theorem go_callF {x : Operand} {args : Array Operand} {ts : Array TypeId} : go P zm ne Q (.ops yl q O n0 i (⟨d, .call ⟨.value x, args, ts⟩, ty, pos, after, none⟩ :: r) :: k) t f n = goCall P zm ne Q q (calV (aev t x) (args.toList.map (aev t))) d (.ops yl q O n0 (i + 1) r :: k) t f n := by
  rw [go_call rfl]; simp only [calleeA, calV]
  rfl
end

end Go.Proofs.Ytpmahilkkoengaa
