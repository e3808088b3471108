/-
  The machine does what the abstract operations say: those that hang on values alone, and those that read.
-/
import Derived.Test.YtpmahilkkoengaaFwB
namespace Go.Proofs.Ytpmahilkkoengaa
open Go

theorem absV_rv (c : Cx) (v : Value) : Rv c (absV v) v := by
  unfold absV
  split <;> simp [Rv]

theorem tiOf_some {P : Program} {t : TypeId} {ti : TI} (h : tiOf P t = some ti) : ∃ d i z, P.underlying t = some d ∧ P.info? t = some i ∧ i.zero = some z ∧ ti.size = i.size ∧ ti.bytes = i.bytes ∧
    ti.kind = tkOf d ∧ ti.zero = z.cells.toList.map absV ∧ z.cells.size = i.size ∧ (∀ u ∈ z.cells.toList, u.oneCell' = true) ∧ aggB z = (tkOf d).agg ∧ fieldsB P d = true := by
  unfold tiOf at h
  split at h
  · rename_i d i h1 h2
    split at h
    · rename_i z hz
      split at h
      · rename_i hc
        injection h with h; subst h
        simp only [Bool.and_eq_true, List.all_eq_true, beq_iff_eq] at hc
        exact ⟨d, i, z, h1, h2, hz, rfl, rfl, rfl, rfl, hc.1.1.2, hc.1.1.1, hc.1.2, hc.2⟩
      · cases h
    · cases h
  · cases h

theorem sca_cells {c : Cx} {a : AV} {v : Value} (hs : a.sca = true) (h : Rv c a v) : v.oneCell' = true ∧ v.cells = #[v] := by
  cases a <;> simp only [AV.sca, Bool.false_eq_true] at hs <;> simp only [Rv] at h
  case bool => subst h; exact ⟨rfl, rfl⟩
  case int => subst h; exact ⟨rfl, rfl⟩
  case str => subst h; exact ⟨rfl, rfl⟩
  case sl => obtain ⟨a, cap, rfl, _⟩ := h; exact ⟨rfl, rfl⟩
  case own => obtain ⟨_, _, a, cap, rfl, _⟩ := h; exact ⟨rfl, rfl⟩
  case ptr => obtain ⟨_, b, o, rfl, _⟩ := h; exact ⟨rfl, rfl⟩
  case rp => obtain ⟨b, o, vs, rfl, _⟩ := h; exact ⟨rfl, rfl⟩
  case fn => obtain ⟨a, b, rfl, _⟩ := h; exact ⟨rfl, rfl⟩
  case nilp => subst h; exact ⟨rfl, rfl⟩

/-- A value of a shape: its cells are its abstract value's cells. -/
theorem shaped_cells {c : Cx} {a : AV} {v : Value} {n : Nat} (hs : a.shaped n = true) (h : Rv c a v) : v.cells.size = n ∧ (∀ u ∈ v.cells.toList, u.oneCell' = true) ∧ Rl c a.cells v.cells.toList := by
  cases a with
  | agg cs =>
    simp only [Rv] at h
    obtain ⟨vs, rfl, h1, h2⟩ := h
    simp only [AV.shaped, beq_iff_eq] at hs
    refine ⟨?_, h1, h2⟩
    have := h2.length
    simpa [Value.cells, hs] using this
  | any => simp [AV.shaped, AV.sca] at hs
  | tup => simp [AV.shaped, AV.sca] at hs
  | _ =>
    simp only [AV.shaped, Bool.and_eq_true, beq_iff_eq] at hs
    obtain ⟨h1, h2⟩ := sca_cells hs.1 h
    rw [h2]
    refine ⟨by simp [hs.2], by simpa using h1, ?_⟩
    simp only [AV.cells, Rl]
    exact ⟨v, [], rfl, h, rfl⟩

theorem shaped_len {a : AV} {n : Nat} (hs : a.shaped n = true) : a.cells.length = n := by
  cases a <;> simp_all [AV.shaped, AV.cells]

theorem agg_ov {c : Cx} {cs : List AV} {v : Value} (h : Rv c (.agg cs) v) : ∃ vs : Array Value, v = .agg vs ∧ (∀ u ∈ vs.toList, u.oneCell' = true) ∧ Rl c cs vs.toList := by
  simpa only [Rv] using h

theorem isAgg_run {P : Program} {t : TypeId} {d : TypeDesc} (h : P.underlying t = some d) (w : World) : (isAgg t).run P w = .ok (tkOf d).agg w := by
  unfold isAgg
  simp only [Sem.run_bind, run_underlying h, Result.andThen_ok]
  cases d <;> rfl

theorem sizeOf_run {P : Program} {t : TypeId} {i : TypeInfo} (h : P.info? t = some i) (w : World) : (sizeOf t).run P w = .ok i.size w := by
  simp [sizeOf, typeInfo, h]

theorem addr_add (b o n : Nat) : (⟨b, o, none⟩ : Addr).add n = ⟨b, o + n, none⟩ := by
  unfold Addr.add; split <;> simp_all

/-! ### Arithmetic, comparisons -/
theorem eqGuard_ok {P : Program} {op : BinOp} {t : TypeId} {xo yo : Operand} {a b : Value} (w : World) (h : (∀ cs, a ≠ .agg cs) ∧ a ≠ .nilIface) : (eqGuard op t xo yo a b).run P w = .ok () w := by
  obtain ⟨h1, h2⟩ := h
  unfold eqGuard
  cases op <;> simp <;> cases a <;> first | rfl | (exact absurd rfl (h1 _)) | (exact absurd rfl h2)

theorem binA_int {P : Program} {op : BinOp} {t : TypeId} {k : IntKind} {n : Int} {y : AV} {s : Prop} {v : AV} (h : binA op (.int k n) y = some (s, v)) (hs : s) {c : Cx} {b : Value} (hy : Rv c y b) :
    ∃ r, (binOp op t (.int k n) b).run P c.w = .ok r c.w ∧ Rv c v r := by
  cases y
  case int k' m =>
    simp only [Rv] at hy; subst hy
    cases op <;> simp only [binA] at h <;> first
      | (injection h with h; injection h with h1 h2; subst h1; subst h2; refine ⟨_, ?_, rfl⟩; simp only [binOp, Op.shift]; rw [if_neg (by omega)]; rfl)
      | (split at h
         · rename_i hk
           subst hk
           injection h with h; injection h with h1 h2; subst h1; subst h2
           refine ⟨_, ?_, rfl⟩
           simp [binOp, Op.intArith, Op.intDiv, Op.intBits, Op.intCmp]
           try simp [hs]
           try (first | rfl | (simp only [bne]; done))
         · cases h)
      | (simp at h)
  all_goals (cases op <;> simp [binA] at h)

theorem binA_str {P : Program} {op : BinOp} {t : TypeId} {n : ByteArray} {y : AV} {s : Prop} {v : AV} (h : binA op (.str n) y = some (s, v)) (hs : s) {c : Cx} {b : Value} (hy : Rv c y b) :
    ∃ r, (binOp op t (.string n) b).run P c.w = .ok r c.w ∧ Rv c v r := by
  cases y
  case str m =>
    simp only [Rv] at hy; subst hy
    cases op <;> simp only [binA] at h <;> first
      | (injection h with h; injection h with h1 h2; subst h1; subst h2; refine ⟨_, ?_, rfl⟩
         simp only [binOp, Op.stringOp]
         have hm : IntKind.i64.max = 9223372036854775807 := rfl
         first | rfl | (rw [if_neg (by rw [hm]; omega)]; rfl))
      | (simp at h)
  all_goals (cases op <;> simp [binA] at h)

theorem equal_bool {P : Program} {t : TypeId} (ht : P.underlying t = some .bool) (a b : Bool) (w : World) : (Op.equal t (.bool a) (.bool b)).run P w = .ok (a == b) w := by
  have hm : Op.maxDepth = 9999 + 1 := rfl
  unfold Op.equal
  rw [hm]
  generalize 9999 = d
  rw [Op.equalIn]
  simp only [Sem.run_bind, run_underlying ht, Result.andThen_ok]
  rfl

theorem binA_bool {P : Program} {op : BinOp} {t : TypeId} {n : Bool} {y : AV} {s : Prop} {v : AV} (ht : P.underlying t = some .bool) (h : binA op (.bool n) y = some (s, v)) {c : Cx} {b : Value} (hy : Rv c y b) :
    ∃ r, (binOp op t (.bool n) b).run P c.w = .ok r c.w ∧ Rv c v r := by
  cases y
  case bool m =>
    simp only [Rv] at hy; subst hy
    cases op <;> simp only [binA] at h <;> first
      | (injection h with h; injection h with h1 h2; subst h1; subst h2; refine ⟨_, ?_, rfl⟩
         simp only [binOp, Sem.run_bind, equal_bool ht, Result.andThen_ok, Sem.run_pure])
      | (simp at h)
  all_goals (cases op <;> simp [binA] at h)

theorem unA_sound {P : Program} {op : UnOp} {x : AV} {s : Prop} {v : AV} (h : unA op x = some (s, v)) {c : Cx} {a : Value} (hx : Rv c x a) :
    ∃ r, (Op.unary op a).run P c.w = .ok r c.w ∧ Rv c v r := by
  cases x <;> (try (cases op <;> simp [unA] at h; done))
  case bool b =>
    simp only [Rv] at hx; subst hx
    cases op <;> simp only [unA] at h <;> first
      | (injection h with h; injection h with h1 h2; subst h1; subst h2; exact ⟨_, rfl, rfl⟩)
      | (simp at h)
  case int k n =>
    simp only [Rv] at hx; subst hx
    cases op <;> simp only [unA] at h <;> first
      | (injection h with h; injection h with h1 h2; subst h1; subst h2; exact ⟨_, rfl, rfl⟩)
      | (simp at h)

/-! ### Structs, slices -/
theorem tk_slice {d : TypeDesc} {e : TypeId} (h : tkOf d = .slice e) : d = .slice e := by cases d <;> simp_all [tkOf]
theorem tk_array {d : TypeDesc} {n : Nat} {e : TypeId} (h : tkOf d = .array n e) : d = .array n e := by cases d <;> simp_all [tkOf]
theorem tk_string {d : TypeDesc} (h : tkOf d = .string) : d = .string := by cases d <;> simp_all [tkOf]
theorem tk_bool {d : TypeDesc} (h : tkOf d = .bool) : d = .bool := by cases d <;> simp_all [tkOf]
theorem tk_int {d : TypeDesc} {k : IntKind} (h : tkOf d = .int k) : d = .int k := by cases d <;> simp_all [tkOf]
theorem tk_struct {d : TypeDesc} {fs : List (Nat × TypeId)} (h : tkOf d = .struct fs) : ∃ fields : Array Field, d = .struct fields ∧ fs = fields.toList.map fun f => (f.offset, f.type) := by
  cases d <;> simp_all [tkOf]
theorem field_get {fields : Array Field} {i off : Nat} {t : TypeId} (h : (fields.toList.map fun f => (f.offset, f.type))[i]? = some (off, t)) : ∃ f, fields[i]? = some f ∧ f.offset = off ∧ f.type = t := by
  rw [List.getElem?_map] at h
  cases hf : fields.toList[i]? with
  | none => rw [hf] at h; cases h
  | some f =>
    rw [hf] at h
    simp only [Option.map_some, Option.some.injEq, Prod.mk.injEq] at h
    exact ⟨f, by simpa using hf, h.1, h.2⟩

theorem pack_sound {P : Program} {c : Cx} {t : TypeId} {d : TypeDesc} {i : TypeInfo} (hd : P.underlying t = some d) (hi : P.info? t = some i) {cs : List AV} {vs : Array Value} (h1 : ∀ u ∈ vs.toList, u.oneCell' = true)
    (h : Rl c cs vs.toList) (off : Nat) (hl : off + i.size ≤ cs.length) (hz : (tkOf d).agg = false → i.size = 1) :
    ∃ r, (part t vs off).run P c.w = .ok r c.w ∧ Rv c (pack (tkOf d).agg ((cs.drop off).take i.size)) r := by
  have hlen := h.length
  simp only [part, Sem.run_bind, isAgg_run hd, Result.andThen_ok]
  cases hg : (tkOf d).agg with
  | true =>
    simp only [if_true, Sem.run_bind, sizeOf_run hi, Result.andThen_ok, Sem.run_pure, pack]
    refine ⟨_, rfl, ?_⟩
    simp only [Rv]
    refine ⟨_, rfl, fun u hu => h1 u ?_, ?_⟩
    · rw [Array.toList_extract] at hu
      exact List.mem_of_mem_drop (List.mem_of_mem_take hu)
    · rw [Array.toList_extract]
      have := (h.drop off).take i.size
      simpa [List.extract] using this
  | false =>
    have h1 := hz hg
    simp only [Bool.false_eq_true, if_false, pack]
    have hlt : off < cs.length := by omega
    obtain ⟨u, hu, hr⟩ := h.get off _ (List.getElem?_eq_getElem hlt)
    have hu' : vs[off]? = some u := by simpa using hu
    rw [hu']
    refine ⟨u, rfl, ?_⟩
    have : ((cs.drop off).take i.size).headD .any = cs[off] := by
      rw [h1, List.headD_eq_head?_getD, List.head?_take]
      simp [List.getElem?_eq_getElem hlt]
    rw [this]; exact hr

theorem zero_size1 {P : Program} {t : TypeId} {ti : TI} (h : tiOf P t = some ti) (hg : ti.kind.agg = false) : ti.size = 1 := by
  obtain ⟨d, i, z, _, _, _, h4, _, h6, _, h8, _, h10, _⟩ := tiOf_some h
  rw [h6] at hg; rw [hg] at h10
  rw [h4, ← h8]
  cases z <;> first | rfl | (simp [aggB] at h10)

theorem sliceB {P : Program} (w : World) (k : IntKind) (n : Int) (y : Nat) (code : BoundsCode) (h0 : 0 ≤ n) (h1 : n ≤ y) : (Instr.sliceBound (.int k n) y code).run P w = .ok n.toNat w := by
  simp [Instr.sliceBound, asIntOf, h0, h1]

end Go.Proofs.Ytpmahilkkoengaa
