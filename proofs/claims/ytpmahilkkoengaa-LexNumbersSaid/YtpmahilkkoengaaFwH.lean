/-
  The machine does what the reading operations say, and those that make a block.
-/
import Derived.Test.YtpmahilkkoengaaFwG
import Derived.Laws.Tables
import Derived.Laws.BytesString
namespace Go.Proofs.Ytpmahilkkoengaa
open Go
set_option linter.unusedSimpArgs false
set_option linter.unusedVariables false

theorem load_cells {P : Program} {w : World} {b o : Nat} {vs : List Value} (h : HasCells w b o vs) (n : Nat) (hn : n ≤ vs.length) : (loadCells ⟨b, o, none⟩ n).run P w = .ok (vs.take n).toArray w := by
  have := run_loadCells_list (P := P) w ⟨b, o, none⟩ (vs.take n) (fun j v hj => by rw [addr_add]; exact h.take n j v hj)
  rwa [List.length_take, Nat.min_eq_left hn] at this

theorem load_sound {P : Program} {c : Cx} {t : TypeId} {ti : TI} (ht : tiOf P t = some ti) {cs : List AV} {vs : List Value} {b o : Nat} (h1 : ∀ u ∈ vs, u.oneCell' = true) (hl : Rl c cs vs) (hc : HasCells c.w b o vs)
    (hs : ti.size ≤ cs.length ∧ (ti.kind.agg = true ∨ 0 < cs.length)) :
    ∃ r, (Instr.loadAt t (.pointer (some ⟨b, o, none⟩))).run P c.w = .ok r c.w ∧ Rv c (pack ti.kind.agg (if ti.kind.agg then cs.take ti.size else cs)) r := by
  obtain ⟨d, i, z, hd, hi, _, hsz, _, hk, _⟩ := tiOf_some ht
  have hlen := hl.length
  simp only [Instr.loadAt, Sem.run_bind, Instr.sureAddr, Sem.run_pure, Result.andThen_ok, loadVar, isAgg_run hd, ← hk]
  cases hg : ti.kind.agg with
  | true =>
    simp only [if_true, Sem.run_bind, sizeOf_run hi, Result.andThen_ok, pack]
    rw [load_cells hc i.size (by rw [hlen, ← hsz]; exact hs.1)]
    refine ⟨_, rfl, ?_⟩
    simp only [Rv]
    exact ⟨_, rfl, fun u hu => h1 u (List.mem_of_mem_take (by simpa using hu)), by rw [hsz]; simpa using hl.take i.size⟩
  | false =>
    simp only [Bool.false_eq_true, if_false, pack]
    have h0 : 0 < cs.length := hs.2.resolve_left (by simp [hg])
    obtain ⟨u, hu, hr⟩ := hl.get 0 _ (List.getElem?_eq_getElem h0)
    have hcell := hc 0 u hu
    rw [Nat.add_zero] at hcell
    refine ⟨u, by rw [run_load, hcell], ?_⟩
    have : cs.headD .any = cs[0] := by rw [List.headD_eq_head?_getD, List.head?_eq_getElem?, List.getElem?_eq_getElem h0]; rfl
    rw [this]; exact hr

/-- Cells that are bytes. -/
theorem bytes_cells {c : Cx} : ∀ (l : List AV) (ns : List Int) (b o : Nat), u8L l = some ns → Re c 1 l b o → HasCells c.w b o (ns.map (Value.int .u8)) ∧ ns.length = l.length
  | [], ns, b, o, h, _ => by
    simp only [u8L, Option.some.injEq] at h; subst h
    exact ⟨fun i v hv => by simp at hv, rfl⟩
  | a :: l, ns, b, o, h, hre => by
    simp only [u8L] at h
    split at h
    · rename_i n
      cases hu : u8L l with
      | none => rw [hu] at h; cases h
      | some ms =>
        rw [hu] at h
        simp only [Option.map_some, Option.some.injEq] at h; subst h
        simp only [Re] at hre
        obtain ⟨⟨v, h1, h2, h3, h4, h5⟩, h6⟩ := hre
        obtain ⟨g1, g2⟩ := bytes_cells l ms b (o + 1) hu h6
        simp only [Rv] at h1; subst h1
        refine ⟨?_, by simp [g2]⟩
        rw [List.map_cons, ← List.singleton_append]
        refine HasCells.append ?_ (by simpa using g1)
        simpa [Value.cells] using h5
    · cases h
theorem conv_str {P : Program} {c : Cx} {src dst : TypeId} {ts td : TI} (hts : tiOf P src = some ts) (htd : tiOf P dst = some td) {l : List AV} {p s : Prop} {v : AV} (h : slStr P (some ts) (some td) (some l) p = some (s, v)) {b o cap : Nat} (hre : Re c 1 l b o) :
    ∃ r, (convert src dst (.slice (some ⟨b, o, none⟩) l.length cap)).run P c.w = .ok r c.w ∧ Rv c v r := by
  simp only [slStr] at h
  split at h
  · rename_i e hk1 hk2
    simp only [strV] at h
    split at h
    · rename_i ns hb hu
      injection h with h; injection h with h1 h2; subst h2
      obtain ⟨d, ii, z, hd, _, _, _, _, hk, _⟩ := tiOf_some hts
      obtain ⟨d', ii', z', hd', _, _, _, _, hk', _⟩ := tiOf_some htd
      rw [hk] at hk1; rw [hk'] at hk2
      have := tk_slice hk1; subst this
      have := tk_string hk2; subst this
      simp only [byteK] at hb
      split at hb
      · rename_i te hte
        split at hb
        · rename_i hk3
          obtain ⟨d3, _, _, hd3, _, _, _, _, hk4, _⟩ := tiOf_some hte
          rw [hk4] at hk3
          have := tk_int hk3; subst this
          simp only [Option.bind_some] at hu
          obtain ⟨g1, g2⟩ := bytes_cells l ns b o hu hre
          refine ⟨.string (strOf ns), ?_, rfl⟩
          rw [run_convert_bytes_string c.w src dst e _ _ _ hd hd3 hd']
          refine run_bytesToString c.w _ _ _ ns ?_
          have := load_cells (P := P) g1 l.length (by simp [g2])
          rw [this, List.take_of_length_le (by simp [g2])]
        · cases hb
      · cases hb
    · cases h
  · cases h
theorem conv_sound {P : Program} {c : Cx} {f : Nat → BS} (hk : HOk c f) {src dst : TypeId} {x : AV} {vx : Value} (hx : Rv c x vx) {s : Prop} {v : AV} (h : convV P f (tiOf P src) (tiOf P dst) x = some (s, v)) (hs : s) : ∃ r, (convert src dst vx).run P c.w = .ok r c.w ∧ Rv c v r := by
  cases hts : tiOf P src with
  | none => rw [hts] at h; cases x <;> simp only [convV, slStr] at h <;> cases h
  | some ts =>
    cases htd : tiOf P dst with
    | none => rw [hts, htd] at h; cases x <;> simp only [convV, slStr] at h <;> cases h
    | some td =>
      rw [hts, htd] at h
      cases x <;> simp only [convV] at h <;> try (cases h; done)
      case int kk n =>
        split at h
        · rename_i k' hk'
          injection h with h; injection h with h1 h2; subst h2
          simp only [Rv] at hx
          obtain ⟨d, ii, z, hd, _, _, _, _, hk0, _⟩ := tiOf_some htd
          rw [hk0] at hk'
          have := tk_int hk'; subst this
          obtain ⟨d2, _, _, hd2, _⟩ := tiOf_some hts
          refine ⟨.int k' (k'.wrap n), ?_, rfl⟩
          rw [hx]
          simp only [convert, Sem.run_bind, run_underlying hd, run_underlying hd2, Result.andThen_ok]
          rfl
        · cases h
      case sl sz tg l =>
        simp only [Rv] at hx
        obtain ⟨a, cap, rfl, h1, h2, h3⟩ := hx
        have hs' : l ≠ [] ∧ sz = 1 := by
          simp only [slStr, elemsA, strV, Option.bind_some] at h
          repeat' (first | cases h | split at h)
          rename_i hu
          refine ⟨?_, hs.2⟩
          rintro rfl
          simp only [u8L, Option.some.injEq] at hu; subst hu
          exact hs.1 rfl
        obtain ⟨g1, rfl⟩ := hs'
        rcases h3 with h3 | ⟨b, o, rfl, hb, hF, hre⟩
        · exact absurd h3 g1
        · exact conv_str hts htd h hre
      case own sz id off len =>
        simp only [elemsA] at h
        cases hf : f id with
        | live sz' l =>
          rw [hf] at h
          simp only [Rv] at hx
          obtain ⟨hU, hesz, a, cap, rfl, h1, h2⟩ := hx
          obtain ⟨e, he, h3, h4, h5⟩ := hk.live id sz' l hf
          have hse := hesz e he
          have hs' : (l.drop off).take len ≠ [] ∧ sz = 1 ∧ off + len ≤ l.length := by
            simp only [slStr, strV, Option.bind_some] at h
            repeat' (first | cases h | split at h)
            rename_i hu
            have h6 := hs.2.2
            simp only [fitsA, hf] at h6
            refine ⟨?_, hs.2.1, h6⟩
            intro h7
            rw [h7] at hu
            simp only [u8L, Option.some.injEq] at hu; subst hu
            exact hs.1 rfl
          obtain ⟨g1, rfl, g3⟩ := hs'
          have hlen : ((l.drop off).take len).length = len := by simp; omega
          have hr : e.real = true := by
            cases hr : e.real with
            | true => rfl
            | false => have := h4 hr; subst this; simp at g1
          obtain ⟨hre, _⟩ := h5 hr
          rcases h2 with rfl | ⟨b, o, rfl, hall⟩
          · have : len = 0 := by omega
            subst this; simp at g1
          · obtain ⟨_, rfl, rfl, _⟩ := hall e he
            have hre' := hre.slice off len
            have hsz1 : sz' = 1 := by omega
            subst hsz1
            have := conv_str (cap := cap) hts htd h hre'
            rw [hlen] at this
            rw [hse]; exact this
        | fresh => rw [hf] at h; simp only [slStr_none] at h; cases h
        | dead => rw [hf] at h; simp only [slStr_none] at h; cases h
        | iter s p => rw [hf] at h; simp only [slStr_none] at h; cases h

theorem rop_sound {P : Program} {c : Cx} {f : Nat → BS} (hk : HOk c f) {ρA : Operand → AV} {ρ : Operand → Value} (hr : ∀ x, Rv c (ρA x) (ρ x)) {s : Prop} {v : AV} {o : Oper} (h : rop P f ρA o.op = some (s, v)) (hs : s) : VRun P c (execOp ρ o) v := by
  obtain ⟨dst, op, ty, pos, after, guard⟩ := o
  simp only at h
  cases op <;> (try (simp only [rop] at h; cases h; done))
  case load t a =>
    simp only [rop] at h
    have ha := hr a
    refine VRun.of ?_
    split at h
    · rename_i ti cs ht hxa
      injection h with h; injection h with h1 h2; subst h1; subst h2
      rw [hxa] at ha; simp only [Rv] at ha
      obtain ⟨b, o, vs, hxv, hb, hF, g0, g1, g2⟩ := ha
      rw [hxv]
      exact load_sound ht g0 g1 g2 hs
    · rename_i ti id idx off ht hxa
      split at h
      · rename_i sz l hf
        injection h with h; injection h with h1 h2; subst h1; subst h2
        rw [hxa] at ha; simp only [Rv] at ha
        obtain ⟨hU, b, o, hxv, hall⟩ := ha
        obtain ⟨e, he, hesz, hnr, hreal⟩ := hk.live id sz l hf
        obtain ⟨q1, rfl, rfl⟩ := hall e he
        obtain ⟨hre, _⟩ := hreal q1
        obtain ⟨vs, g1, g2, g3, g4⟩ := elem_cells hre (i := (idx : Int)) (by omega) (by have := hs.1; omega)
        rw [hxv, hesz]
        have hget : getE l (idx : Int) = l.getD idx .any := by simp [getE]
        rw [hget] at g3
        exact load_sound ht (fun u hu => g2 u (List.mem_of_mem_drop hu)) (g3.drop off) (by simpa using g4.drop off) hs.2
      · cases h
    · cases h
  case convert src dst' x =>
    simp only [rop] at h
    exact VRun.of (conv_sound hk (hr x) h hs)

/-! ### A new block -/
def Cx.more (c : Cx) (id : Nat) (o : Obj) (e : Ent) : Cx :=
  { w := c.w.alloc o, mu := upd c.mu id (some e), U := fun j => c.U j ∨ j = id, F := fun b => c.F b ∨ b = c.w.heap.size }

theorem heap_alloc_at (w : World) (o : Obj) : (w.alloc o).heap[w.heap.size]? = some o := by unfold World.alloc; exact Array.getElem?_push_size

theorem Stp.more {c : Cx} {f : Nat → BS} (hk : HOk c f) {id : Nat} (hid : f id = .fresh) (o : Obj) (sz total : Nat) : Stp c (c.more id o ⟨true, c.w.heap.size, 0, sz, total⟩) where
  os := rfl
  tape := rfl
  output := rfl
  size := by simp [Cx.more]
  keep := fun b hb _ => Go.RowKit.Below.heap_alloc _ _ _ hb
  U := fun j h => .inl h
  mu := fun j hj => by
    have : j ≠ id := fun h => by subst h; exact (hk.used j).1 hj hid
    left; exact upd_ne _ _ _ this
  new := fun j e he hr => by
    simp only [Cx.more] at he
    by_cases hj : j = id
    · subst hj; rw [upd_same] at he; injection he with he; subst he; exact .inl (Nat.le_refl _)
    · rw [upd_ne _ _ _ hj] at he; exact .inr ⟨j, e, he, hr, rfl⟩
  F := fun b hb => ⟨fun h => h.elim (fun h => h) (fun h => by omega), fun h => .inl h⟩

/-- The elements lie in these cells. -/
def Lie (c : Cx) (sz : Nat) (l : List AV) (cells : Array Value) : Prop :=
  l.length * sz ≤ cells.size ∧ ∀ (i : Nat) a, l[i]? = some a → ∃ v, Rv c a v ∧ v.cells.size = sz ∧ (a.isAgg = true ∨ v.oneCell' = true) ∧ (∀ u ∈ v.cells.toList, u.oneCell' = true) ∧ ∀ (j : Nat) u, v.cells.toList[j]? = some u → cells[i * sz + j]? = some u

theorem more_ok {c : Cx} {f : Nat → BS} (hk : HOk c f) {id : Nat} (hid : f id = .fresh) {sz : Nat} {l : List AV} {cells : Array Value} (e : TypeId) (hl : Lie c sz l cells) :
    HOk (c.more id (.cells cells e) ⟨true, c.w.heap.size, 0, sz, cells.size⟩) (upd f id (.live sz l)) := by
  have hst := Stp.more hk hid (.cells cells e) sz cells.size
  have hmu : ∀ j, j ≠ id → (c.more id (.cells cells e) ⟨true, c.w.heap.size, 0, sz, cells.size⟩).mu j = c.mu j := fun j hj => upd_ne _ _ _ hj
  have hmu0 : (c.more id (.cells cells e) ⟨true, c.w.heap.size, 0, sz, cells.size⟩).mu id = some ⟨true, c.w.heap.size, 0, sz, cells.size⟩ := upd_same _ _ _
  constructor
  · intro j
    by_cases hj : j = id
    · subst hj; simp [Cx.more]
    · rw [upd_ne _ _ _ hj, ← hk.used j]; simp [Cx.more, hj]
  · intro j h
    by_cases hj : j = id
    · subst hj; rw [upd_same] at h; simp at h
    · rw [upd_ne _ _ _ hj] at h; rw [hmu j hj]; exact hk.none j h
  · intro j s m h
    by_cases hj : j = id
    · subst hj
      rw [upd_same] at h
      injection h with h1 h2; subst h1; subst h2
      refine ⟨_, hmu0, rfl, by simp, fun _ => ⟨Re.of_get fun i a hi => ?_, by simpa using hl.1, cells, e, heap_alloc_at c.w _, rfl⟩⟩
      obtain ⟨v, g1, g2, g3, g4, g5⟩ := hl.2 i a hi
      refine ⟨v, g1.keep hst hk.shut, g2, g3, g4, fun j u hu => ?_⟩
      have := g5 j u hu
      simp only [Cx.more, Nat.zero_add, World.cell?_alloc_new, this]
    · rw [upd_ne _ _ _ hj] at h
      obtain ⟨en, he, h1, h2, h3⟩ := hk.live j s m h
      refine ⟨en, by rw [hmu j hj]; exact he, h1, h2, fun hr => ?_⟩
      obtain ⟨hre, htot, cs, ty, hh, hsz⟩ := h3 hr
      have hlt := hk.lt he hr
      have hb : (c.more id (.cells cells e) ⟨true, c.w.heap.size, 0, sz, cells.size⟩).w.heap[en.block]? = c.w.heap[en.block]? := Go.RowKit.Below.heap_alloc _ _ _ hlt
      refine ⟨Re.of_get fun i a hi => ?_, htot, cs, ty, by rw [hb]; exact hh, hsz⟩
      obtain ⟨v, g1, g2, g3, g4, g5⟩ := hre.get i a hi
      exact ⟨v, g1.keep hst hk.shut, g2, g3, g4, g5.block hb⟩
  · intro j s p h
    by_cases hj : j = id
    · subst hj; rw [upd_same] at h; cases h
    · rw [upd_ne _ _ _ hj] at h
      obtain ⟨en, he, h1, h2, h3, h4⟩ := hk.iter j s p h
      have hb : (c.more id (.cells cells e) ⟨true, c.w.heap.size, 0, sz, cells.size⟩).w.heap[en.block]? = c.w.heap[en.block]? := Go.RowKit.Below.heap_alloc _ _ _ (hk.lt he h1)
      exact ⟨en, by rw [hmu j hj]; exact he, h1, h2, h3, by rw [hb]; exact h4⟩
  · intro i j ei ej hi hj hri hrj hb
    by_cases h1 : i = id <;> by_cases h2 : j = id
    · rw [h1, h2]
    · subst h1
      rw [hmu0] at hi; injection hi with hi; subst hi
      rw [hmu j h2] at hj
      have := hk.lt hj hrj
      simp at hb; omega
    · subst h2
      rw [hmu0] at hj; injection hj with hj; subst hj
      rw [hmu i h1] at hi
      have := hk.lt hi hri
      simp at hb; omega
    · rw [hmu i h1] at hi; rw [hmu j h2] at hj
      exact hk.inj i j ei ej hi hj hri hrj hb
  · intro j en he hr
    by_cases hj : j = id
    · subst hj; rw [hmu0] at he; injection he with he; subst he; exact .inr rfl
    · rw [hmu j hj] at he; exact .inl (hk.shut j en he hr)

/-- A new block whose elements lie in its cells: its address, own. -/
theorem more_ptr (c : Cx) (id sz : Nat) (o : Obj) (total : Nat) : Rv (c.more id o ⟨true, c.w.heap.size, 0, sz, total⟩) (.ptr id 0 0) (.pointer (some ⟨c.w.heap.size, 0, none⟩)) := by
  simp only [Rv]
  refine ⟨.inr rfl, _, _, rfl, fun e he => ?_⟩
  rw [show (c.more id o ⟨true, c.w.heap.size, 0, sz, total⟩).mu id = some ⟨true, c.w.heap.size, 0, sz, total⟩ from upd_same _ _ _] at he
  injection he with he; subst he; simp

theorem more_own (c : Cx) (id sz : Nat) (o : Obj) (len cap total : Nat) (h1 : len ≤ cap) (h2 : cap * sz ≤ total) : Rv (c.more id o ⟨true, c.w.heap.size, 0, sz, total⟩) (.own sz id 0 len) (.slice (some ⟨c.w.heap.size, 0, none⟩) len cap) := by
  have hm : (c.more id o ⟨true, c.w.heap.size, 0, sz, total⟩).mu id = some ⟨true, c.w.heap.size, 0, sz, total⟩ := upd_same _ _ _
  simp only [Rv]
  refine ⟨.inr rfl, fun e he => ?_, _, cap, rfl, h1, .inr ⟨_, _, rfl, fun e he => ?_⟩⟩
  · rw [hm] at he; injection he with he; subst he; rfl
  · rw [hm] at he; injection he with he; subst he; simpa using h2

theorem zval_rv {P : Program} {c : Cx} {t : TypeId} {ti : TI} {z : Value} {i : TypeInfo} (ht : tiOf P t = some ti) (hi : P.info? t = some i) (hz : i.zero = some z) :
    Rv c ti.zval z ∧ z.cells.size = ti.size ∧ (ti.zval.isAgg = true ∨ z.oneCell' = true) ∧ ∀ u ∈ z.cells.toList, u.oneCell' = true := by
  obtain ⟨d, i', z', hd, hi', hz', hsz, _, hk, hz0, hzs, hz1, hag, _⟩ := tiOf_some ht
  rw [hi] at hi'; injection hi' with hi'; subst hi'
  rw [hz] at hz'; injection hz' with hz'; subst hz'
  refine ⟨?_, by rw [hzs, hsz], ?_, hz1⟩
  · unfold TI.zval pack
    rw [hk, ← hag]
    cases z with
    | agg cs =>
      simp only [aggB, if_true, Rv]
      refine ⟨cs, rfl, hz1, ?_⟩
      rw [hz0]
      refine Rl.of_get (by simp [Value.cells]) fun i a u h1 h2 => ?_
      rw [List.getElem?_map] at h1
      simp only [Value.cells] at h1
      rw [h2] at h1
      simp only [Option.map_some, Option.some.injEq] at h1
      subst h1; exact absV_rv c u
    | _ =>
      simp only [aggB, Bool.false_eq_true, if_false]
      rw [hz0]
      simp only [Value.cells, List.map_cons, List.map_nil, List.headD_cons]
      exact absV_rv c _
  · unfold TI.zval pack
    rw [hk, ← hag]
    cases z with
    | agg cs => left; simp [aggB, AV.isAgg]
    | _ => right; exact hz1 _ (by simp [Value.cells])

end Go.Proofs.Ytpmahilkkoengaa
