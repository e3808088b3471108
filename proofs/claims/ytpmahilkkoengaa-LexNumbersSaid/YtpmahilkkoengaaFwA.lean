/-
  The abstract values, and how they stand for the machine's values in a world. A framework of this session's own: values without addresses; blocks of the call's own by number; what is read alone by its content.
-/
import Derived.WalkKit
import Derived.Orders
import Derived.Below
namespace Go.Proofs.Ytpmahilkkoengaa
open Go

/-- A value without addresses. -/
inductive AV where
  | any
  | bool (b : Bool)
  | int (k : IntKind) (n : Int)
  | str (s : ByteArray)
  | agg (cs : List AV)
  | tup (cs : List AV)
  | sl (sz : Nat) (tight : Bool) (l : List AV)
  | own (sz id off len : Nat)
  | ptr (id idx off : Nat)
  | rp (cs : List AV)
  | fn (f : Fn) (fs cap : List AV)
  | nilp
  deriving Inhabited

/-- A block of the call's own: not yet there, gone, or there with its elements (sz cells each). -/
inductive BS where
  | fresh
  | dead
  | live (sz : Nat) (l : List AV)
  | iter (s : ByteArray) (pos : Nat)
  deriving Inhabited

/-- Where a block of the call's own lies. -/
structure Ent where
  real : Bool
  block : Nat
  base : Nat
  sz : Nat
  total : Nat

/-- A world, where the blocks lie, which numbers have been given out, and what must not be read as if it stood for ever. -/
structure Cx where
  w : World
  mu : Nat → Option Ent
  U : Nat → Prop
  F : Nat → Prop

/-- Cells of a block, one behind the other. -/
def HasCells (w : World) (b o : Nat) (vs : List Value) : Prop := ∀ i v, vs[i]? = some v → w.cell? ⟨b, o + i, none⟩ = some v

def AV.isAgg : AV → Bool
  | .agg _ => true
  | _ => false

mutual
def Rv (c : Cx) : AV → Value → Prop
  | .any, _ => True
  | .bool b, v => v = .bool b
  | .int k n, v => v = .int k n
  | .str s, v => v = .string s
  | .agg cs, v => ∃ vs : Array Value, v = .agg vs ∧ (∀ u ∈ vs.toList, u.oneCell' = true) ∧ Rl c cs vs.toList
  | .tup cs, v => ∃ vs : Array Value, v = .tuple vs ∧ Rl c cs vs.toList
  | .sl sz tight l, v => ∃ a cap, v = .slice a l.length cap ∧ l.length ≤ cap ∧ (tight = true → cap = l.length) ∧
      (l = [] ∨ ∃ b o, a = some ⟨b, o, none⟩ ∧ b < c.w.heap.size ∧ ¬ c.F b ∧ Re c sz l b o)
  | .own sz id off len, v => c.U id ∧ (∀ e, c.mu id = some e → e.sz = sz) ∧ ∃ a cap, v = .slice a len cap ∧ len ≤ cap ∧
      (cap = 0 ∨ ∃ b o, a = some ⟨b, o, none⟩ ∧ ∀ e, c.mu id = some e → e.real = true ∧ b = e.block ∧ o = e.base + off * e.sz ∧ e.base + (off + cap) * e.sz ≤ e.total)
  | .ptr id idx off, v => c.U id ∧ ∃ b o, v = .pointer (some ⟨b, o, none⟩) ∧ ∀ e, c.mu id = some e → e.real = true ∧ b = e.block ∧ o = e.base + idx * e.sz + off
  | .rp cs, v => ∃ b o, ∃ vs : List Value, v = .pointer (some ⟨b, o, none⟩) ∧ b < c.w.heap.size ∧ ¬ c.F b ∧ (∀ u ∈ vs, u.oneCell' = true) ∧ Rl c cs vs ∧ HasCells c.w b o vs
  | .fn f fs cap, v => ∃ a b : Array Value, v = .func f a b ∧ Rl c fs a.toList ∧ Rl c cap b.toList
  | .nilp, v => v = .pointer none
def Rl (c : Cx) : List AV → List Value → Prop
  | [], vs => vs = []
  | a :: l, vs => ∃ v r, vs = v :: r ∧ Rv c a v ∧ Rl c l r
def Re (c : Cx) (sz : Nat) : List AV → Nat → Nat → Prop
  | [], _, _ => True
  | a :: l, b, o => (∃ v, Rv c a v ∧ v.cells.size = sz ∧ (a.isAgg = true ∨ v.oneCell' = true) ∧ (∀ u ∈ v.cells.toList, u.oneCell' = true) ∧ HasCells c.w b o v.cells.toList) ∧ Re c sz l b (o + sz)
end

/-- One context goes on to another: of what stood there nothing has turned but in the call's own blocks; numbers stay, or die. -/
structure Stp (c c' : Cx) : Prop where
  os : c'.w.os = c.w.os
  tape : c'.w.tape = c.w.tape
  output : c'.w.output = c.w.output
  size : c.w.heap.size ≤ c'.w.heap.size
  keep : ∀ b, b < c.w.heap.size → (∀ id e, c.mu id = some e → e.real = true → e.block ≠ b) → c'.w.heap[b]? = c.w.heap[b]?
  U : ∀ id, c.U id → c'.U id
  mu : ∀ id, c.U id → c'.mu id = c.mu id ∨ c'.mu id = none
  new : ∀ id e, c'.mu id = some e → e.real = true → c.w.heap.size ≤ e.block ∨ ∃ j e', c.mu j = some e' ∧ e'.real = true ∧ e'.block = e.block
  F : ∀ b, b < c.w.heap.size → (c'.F b ↔ c.F b)

theorem Stp.refl (c : Cx) : Stp c c :=
  ⟨rfl, rfl, rfl, Nat.le_refl _, fun _ _ _ => rfl, fun _ h => h, fun _ _ => .inl rfl, fun id e h hr => .inr ⟨id, e, h, hr, rfl⟩, fun _ _ => Iff.rfl⟩

theorem Stp.trans {a b c : Cx} (h : Stp a b) (k : Stp b c) : Stp a c where
  os := k.os.trans h.os
  tape := k.tape.trans h.tape
  output := k.output.trans h.output
  size := Nat.le_trans h.size k.size
  keep := fun x hx hn => (k.keep x (Nat.lt_of_lt_of_le hx h.size) (fun id e he hr hb => by
    rcases h.new id e he hr with h1 | ⟨j, e', hj, hr', hb'⟩
    · omega
    · exact hn j e' hj hr' (hb'.trans hb))).trans (h.keep x hx hn)
  U := fun id hid => k.U id (h.U id hid)
  mu := fun id hid => by
    rcases k.mu id (h.U id hid) with h1 | h1
    · rw [h1]; exact h.mu id hid
    · exact .inr h1
  new := fun id e he hr => by
    rcases k.new id e he hr with h1 | ⟨j, e', hj, hr', hb'⟩
    · exact .inl (Nat.le_trans h.size h1)
    · rcases h.new j e' hj hr' with h2 | ⟨i, e'', hi, hr'', hb''⟩
      · exact .inl (by omega)
      · exact .inr ⟨i, e'', hi, hr'', hb''.trans hb'⟩
  F := fun x hx => (k.F x (Nat.lt_of_lt_of_le hx h.size)).trans (h.F x hx)

/-- The call's own blocks are all forbidden to what is read alone. -/
def Cx.shut (c : Cx) : Prop := ∀ id e, c.mu id = some e → e.real = true → c.F e.block

theorem lt_of_cell {w : World} {b o : Nat} {v : Value} (h : w.cell? ⟨b, o, none⟩ = some v) : b < w.heap.size := by
  unfold World.cell? at h
  rcases Nat.lt_or_ge b w.heap.size with h' | h'
  · exact h'
  · simp [Array.getElem?_eq_none h'] at h

theorem cell_of_block {w w' : World} {b : Nat} (h : w'.heap[b]? = w.heap[b]?) (o : Nat) : w'.cell? ⟨b, o, none⟩ = w.cell? ⟨b, o, none⟩ := by
  unfold World.cell?; simp only [h]

theorem HasCells.block {w w' : World} {b o : Nat} {vs : List Value} (hb : w'.heap[b]? = w.heap[b]?) (h : HasCells w b o vs) : HasCells w' b o vs :=
  fun i v hv => by rw [cell_of_block hb]; exact h i v hv

theorem Stp.at {c c' : Cx} (hs : Stp c c') (hsh : c.shut) {b : Nat} (hb : b < c.w.heap.size) (hF : ¬ c.F b) : c'.w.heap[b]? = c.w.heap[b]? :=
  hs.keep b hb fun id e he hr hbb => hF (hbb ▸ hsh id e he hr)

mutual
theorem Rv.keep {c c' : Cx} (hs : Stp c c') (hsh : c.shut) : ∀ (a : AV) (v : Value), Rv c a v → Rv c' a v
  | .any, _, _ => trivial
  | .bool _, _, h => h
  | .int _ _, _, h => h
  | .str _, _, h => h
  | .agg cs, v, h => by
    simp only [Rv] at h ⊢
    obtain ⟨vs, rfl, h1, h⟩ := h
    exact ⟨vs, rfl, h1, Rl.keep hs hsh cs _ h⟩
  | .tup cs, v, h => by
    simp only [Rv] at h ⊢
    obtain ⟨vs, rfl, h⟩ := h
    exact ⟨vs, rfl, Rl.keep hs hsh cs _ h⟩
  | .sl sz tight l, v, h => by
    simp only [Rv] at h ⊢
    obtain ⟨a, cap, rfl, h1, h2, h3⟩ := h
    refine ⟨a, cap, rfl, h1, h2, ?_⟩
    rcases h3 with h3 | ⟨b, o, rfl, hb, hF, hre⟩
    · exact .inl h3
    · exact .inr ⟨b, o, rfl, Nat.lt_of_lt_of_le hb hs.size, fun h => hF ((hs.F b hb).1 h), Re.keep hs hsh sz _ b o hb hF hre⟩
  | .own sz id off len, v, h => by
    simp only [Rv] at h ⊢
    obtain ⟨h1, h2, a, cap, rfl, h3, h4⟩ := h
    have hmu : ∀ e, c'.mu id = some e → c.mu id = some e := fun e he => by
      rcases hs.mu id h1 with h5 | h5
      · exact h5 ▸ he
      · rw [h5] at he; cases he
    refine ⟨hs.U _ h1, fun e he => h2 e (hmu e he), a, cap, rfl, h3, h4.imp (fun x => x) fun ⟨b, o, ha, h5⟩ => ⟨b, o, ha, fun e he => h5 e (hmu e he)⟩⟩
  | .ptr id idx off, v, h => by
    simp only [Rv] at h ⊢
    obtain ⟨h1, b, o, rfl, h2⟩ := h
    have hmu : ∀ e, c'.mu id = some e → c.mu id = some e := fun e he => by
      rcases hs.mu id h1 with h5 | h5
      · exact h5 ▸ he
      · rw [h5] at he; cases he
    exact ⟨hs.U _ h1, b, o, rfl, fun e he => h2 e (hmu e he)⟩
  | .rp cs, v, h => by
    simp only [Rv] at h ⊢
    obtain ⟨b, o, vs, rfl, hb, hF, h0, h1, h2⟩ := h
    exact ⟨b, o, vs, rfl, Nat.lt_of_lt_of_le hb hs.size, fun h => hF ((hs.F b hb).1 h), h0, Rl.keep hs hsh cs vs h1, h2.block (hs.at hsh hb hF)⟩
  | .fn f fs cap, v, h => by
    simp only [Rv] at h ⊢
    obtain ⟨a, b, rfl, h1, h2⟩ := h
    exact ⟨a, b, rfl, Rl.keep hs hsh fs _ h1, Rl.keep hs hsh cap _ h2⟩
  | .nilp, _, h => h
theorem Rl.keep {c c' : Cx} (hs : Stp c c') (hsh : c.shut) : ∀ (l : List AV) (vs : List Value), Rl c l vs → Rl c' l vs
  | [], _, h => h
  | a :: l, vs, h => by
    simp only [Rl] at h ⊢
    obtain ⟨v, r, rfl, h1, h2⟩ := h
    exact ⟨v, r, rfl, Rv.keep hs hsh a v h1, Rl.keep hs hsh l r h2⟩
theorem Re.keep {c c' : Cx} (hs : Stp c c') (hsh : c.shut) (sz : Nat) : ∀ (l : List AV) (b o : Nat), b < c.w.heap.size → ¬ c.F b → Re c sz l b o → Re c' sz l b o
  | [], _, _, _, _, _ => trivial
  | a :: l, b, o, hb, hF, h => by
    simp only [Re] at h ⊢
    obtain ⟨⟨v, h1, h2, h5, h0, h3⟩, h4⟩ := h
    exact ⟨⟨v, Rv.keep hs hsh a v h1, h2, h5, h0, h3.block (hs.at hsh hb hF)⟩, Re.keep hs hsh sz l b _ hb hF h4⟩
end

/-! ### Lists of values, lists of elements -/
theorem Rl.length {c : Cx} : ∀ {l : List AV} {vs : List Value}, Rl c l vs → vs.length = l.length
  | [], vs, h => by simp only [Rl] at h; simp [h]
  | a :: l, vs, h => by
    simp only [Rl] at h
    obtain ⟨v, r, rfl, h1, h2⟩ := h
    simp [h2.length]

theorem Rl.get {c : Cx} : ∀ {l : List AV} {vs : List Value}, Rl c l vs → ∀ (i : Nat) a, l[i]? = some a → ∃ v, vs[i]? = some v ∧ Rv c a v
  | [], _, _, i, a, h => by simp at h
  | x :: l, vs, h, i, a, hi => by
    simp only [Rl] at h
    obtain ⟨v, r, rfl, h1, h2⟩ := h
    cases i with
    | zero => simp at hi; subst hi; exact ⟨v, rfl, h1⟩
    | succ i => simpa using h2.get i a (by simpa using hi)

theorem Rl.of_get {c : Cx} : ∀ {l : List AV} {vs : List Value}, vs.length = l.length → (∀ (i : Nat) a v, l[i]? = some a → vs[i]? = some v → Rv c a v) → Rl c l vs
  | [], vs, h, _ => by simp only [Rl]; exact List.length_eq_zero_iff.1 (by simpa using h)
  | a :: l, [], h, _ => by simp at h
  | a :: l, v :: vs, h, hg => by
    simp only [Rl]
    exact ⟨v, vs, rfl, hg 0 a v rfl rfl, Rl.of_get (by simpa using h) (fun i a v h1 h2 => hg (i + 1) a v (by simpa using h1) (by simpa using h2))⟩

theorem Rl.append {c : Cx} : ∀ {l : List AV} {vs : List Value} {m us}, Rl c l vs → Rl c m us → Rl c (l ++ m) (vs ++ us)
  | [], vs, m, us, h, k => by simp only [Rl] at h; subst h; simpa using k
  | a :: l, vs, m, us, h, k => by
    simp only [Rl] at h
    obtain ⟨v, r, rfl, h1, h2⟩ := h
    simp only [List.cons_append, Rl]
    exact ⟨v, r ++ us, rfl, h1, h2.append k⟩

theorem Rl.take {c : Cx} : ∀ {l : List AV} {vs : List Value} (n : Nat), Rl c l vs → Rl c (l.take n) (vs.take n)
  | [], vs, n, h => by simp only [Rl] at h; subst h; simp [Rl]
  | a :: l, vs, n, h => by
    simp only [Rl] at h
    obtain ⟨v, r, rfl, h1, h2⟩ := h
    cases n with
    | zero => simp [Rl]
    | succ n => simp only [List.take_succ_cons, Rl]; exact ⟨v, r.take n, rfl, h1, h2.take n⟩

theorem Rl.drop {c : Cx} : ∀ {l : List AV} {vs : List Value} (n : Nat), Rl c l vs → Rl c (l.drop n) (vs.drop n)
  | [], vs, n, h => by simp only [Rl] at h; subst h; simp [Rl]
  | a :: l, vs, n, h => by
    simp only [Rl] at h
    obtain ⟨v, r, rfl, h1, h2⟩ := h
    cases n with
    | zero => simp only [List.drop_zero, Rl]; exact ⟨v, r, rfl, h1, h2⟩
    | succ n => simpa using h2.drop n

theorem HasCells.drop {w : World} {b o : Nat} {vs : List Value} (n : Nat) (h : HasCells w b o vs) : HasCells w b (o + n) (vs.drop n) := by
  intro i v hv
  rw [List.getElem?_drop] at hv
  have := h (n + i) v hv
  rwa [← Nat.add_assoc] at this

theorem HasCells.take {w : World} {b o : Nat} {vs : List Value} (n : Nat) (h : HasCells w b o vs) : HasCells w b o (vs.take n) := by
  intro i v hv
  rw [List.getElem?_take] at hv
  split at hv
  · exact h i v hv
  · cases hv

theorem HasCells.append {w : World} {b o : Nat} {vs us : List Value} (h : HasCells w b o vs) (k : HasCells w b (o + vs.length) us) : HasCells w b o (vs ++ us) := by
  intro i v hv
  rcases Nat.lt_or_ge i vs.length with hlt | hge
  · rw [List.getElem?_append_left hlt] at hv; exact h i v hv
  · rw [List.getElem?_append_right hge] at hv
    have := k (i - vs.length) v hv
    rwa [show o + vs.length + (i - vs.length) = o + i by omega] at this

theorem Re.get {c : Cx} {sz : Nat} : ∀ {l : List AV} {b o : Nat}, Re c sz l b o → ∀ (i : Nat) a, l[i]? = some a → ∃ v, Rv c a v ∧ v.cells.size = sz ∧ (a.isAgg = true ∨ v.oneCell' = true) ∧ (∀ u ∈ v.cells.toList, u.oneCell' = true) ∧ HasCells c.w b (o + i * sz) v.cells.toList
  | [], _, _, _, i, a, h => by simp at h
  | x :: l, b, o, h, i, a, hi => by
    simp only [Re] at h
    obtain ⟨h1, h2⟩ := h
    cases i with
    | zero => simp at hi; subst hi; simpa using h1
    | succ i =>
      have := h2.get i a (by simpa using hi)
      rwa [show o + sz + i * sz = o + (i + 1) * sz by rw [Nat.succ_mul]; omega] at this

theorem Re.of_get {c : Cx} {sz : Nat} : ∀ {l : List AV} {b o : Nat}, (∀ (i : Nat) a, l[i]? = some a → ∃ v, Rv c a v ∧ v.cells.size = sz ∧ (a.isAgg = true ∨ v.oneCell' = true) ∧ (∀ u ∈ v.cells.toList, u.oneCell' = true) ∧ HasCells c.w b (o + i * sz) v.cells.toList) → Re c sz l b o
  | [], _, _, _ => trivial
  | x :: l, b, o, h => by
    simp only [Re]
    refine ⟨by simpa using h 0 x rfl, Re.of_get fun i a hi => ?_⟩
    have := h (i + 1) a (by simpa using hi)
    rwa [show o + (i + 1) * sz = o + sz + i * sz by rw [Nat.succ_mul]; omega] at this

theorem Re.append {c : Cx} {sz : Nat} {l m : List AV} {b o : Nat} (h : Re c sz l b o) (k : Re c sz m b (o + l.length * sz)) : Re c sz (l ++ m) b o := by
  refine Re.of_get fun i a hi => ?_
  rcases Nat.lt_or_ge i l.length with hlt | hge
  · rw [List.getElem?_append_left hlt] at hi; exact h.get i a hi
  · rw [List.getElem?_append_right hge] at hi
    have := k.get (i - l.length) a hi
    rwa [show o + l.length * sz + (i - l.length) * sz = o + i * sz by rw [Nat.add_assoc, ← Nat.add_mul]; congr 2; omega] at this

theorem Re.slice {c : Cx} {sz : Nat} {l : List AV} {b o : Nat} (lo n : Nat) (h : Re c sz l b o) : Re c sz ((l.drop lo).take n) b (o + lo * sz) := by
  refine Re.of_get fun i a hi => ?_
  rw [List.getElem?_take] at hi
  split at hi
  · rw [List.getElem?_drop] at hi
    have := h.get (lo + i) a hi
    rwa [show o + (lo + i) * sz = o + lo * sz + i * sz by rw [Nat.add_mul]; omega] at this
  · cases hi

/-! ### The heap -/
/-- The blocks of the call's own stand as told. -/
structure HOk (c : Cx) (f : Nat → BS) : Prop where
  used : ∀ id, c.U id ↔ f id ≠ .fresh
  none : ∀ id, (f id = .fresh ∨ f id = .dead) → c.mu id = none
  live : ∀ id sz l, f id = .live sz l → ∃ e, c.mu id = some e ∧ e.sz = sz ∧ (e.real = false → l = []) ∧
    (e.real = true → Re c sz l e.block e.base ∧ e.base + l.length * sz ≤ e.total ∧ ∃ cs ty, c.w.heap[e.block]? = some (.cells cs ty (0, 0)) ∧ cs.size = e.total)
  iter : ∀ id s p, f id = .iter s p → ∃ e, c.mu id = some e ∧ e.real = true ∧ e.sz = 0 ∧ e.base = 0 ∧ c.w.heap[e.block]? = some (.stringIter s p)
  inj : ∀ i j ei ej, c.mu i = some ei → c.mu j = some ej → ei.real = true → ej.real = true → ei.block = ej.block → i = j
  shut : c.shut

theorem HOk.of_mu {c : Cx} {f : Nat → BS} (h : HOk c f) {id : Nat} {e : Ent} (he : c.mu id = some e) : (∃ sz l, f id = .live sz l) ∨ ∃ s p, f id = .iter s p := by
  cases hf : f id with
  | fresh => rw [h.none id (.inl hf)] at he; cases he
  | dead => rw [h.none id (.inr hf)] at he; cases he
  | live sz l => exact .inl ⟨sz, l, rfl⟩
  | iter s p => exact .inr ⟨s, p, rfl⟩

theorem HOk.lt {c : Cx} {f : Nat → BS} (h : HOk c f) {id : Nat} {e : Ent} (he : c.mu id = some e) (hr : e.real = true) : e.block < c.w.heap.size := by
  rcases h.of_mu he with ⟨sz, l, hl⟩ | ⟨s, p, hl⟩
  · obtain ⟨e', he', _, _, h3⟩ := h.live id sz l hl
    rw [he] at he'; injection he' with he'; subst he'
    obtain ⟨_, _, cs, ty, hc, _⟩ := h3 hr
    exact (Array.getElem?_eq_some_iff.1 hc).1
  · obtain ⟨e', he', _, _, _, hc⟩ := h.iter id s p hl
    rw [he] at he'; injection he' with he'; subst he'
    exact (Array.getElem?_eq_some_iff.1 hc).1

/-- Update of a function at one place. -/
def upd {α : Type} (f : Nat → α) (i : Nat) (x : α) : Nat → α := fun j => if j = i then x else f j
@[simp] theorem upd_same {α : Type} (f : Nat → α) (i : Nat) (x : α) : upd f i x i = x := by simp [upd]
theorem upd_ne {α : Type} (f : Nat → α) (i : Nat) (x : α) {j : Nat} (h : j ≠ i) : upd f i x j = f j := by simp [upd, h]
theorem upd_comm {α : Type} (f : Nat → α) {i j : Nat} (x y : α) (h : i ≠ j) : upd (upd f i x) j y = upd (upd f j y) i x := by
  funext k
  unfold upd
  by_cases h1 : k = i <;> by_cases h2 : k = j <;> simp_all
end Go.Proofs.Ytpmahilkkoengaa
