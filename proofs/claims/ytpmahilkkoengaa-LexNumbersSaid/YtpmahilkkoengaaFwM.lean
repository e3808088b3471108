/-
  Calls by their contracts: a call that only reads what it gets and tells a new value (Pure); a call in the heap at hand (CA). What an operation asks (aop), and that the machine carries it out.
-/
import Derived.Test.YtpmahilkkoengaaFwL
namespace Go.Proofs.Ytpmahilkkoengaa
open Go
set_option linter.unusedSimpArgs false
set_option linter.unusedVariables false

mutual
/-- No part of it is of the call's own. -/
def ro : AV → Prop
  | .own .. | .ptr .. => False
  | .agg cs => roL cs
  | .tup cs => roL cs
  | .sl _ _ l => roL l
  | .rp cs => roL cs
  | .fn _ fs cap => roL fs ∧ roL cap
  | _ => True
def roL : List AV → Prop
  | [] => True
  | a :: l => ro a ∧ roL l
end
theorem roL_iff {l : List AV} : roL l ↔ ∀ a ∈ l, ro a := by
  induction l with
  | nil => simp [roL]
  | cons a l ih => simp [roL, ih]
theorem roL_map {α : Type} {g : α → AV} {l : List α} (h : ∀ x, ro (g x)) : roL (l.map g) := roL_iff.2 fun a ha => by
  rw [List.mem_map] at ha; obtain ⟨x, _, rfl⟩ := ha; exact h x
theorem roL_append {l m : List AV} : roL (l ++ m) ↔ roL l ∧ roL m := by
  simp only [roL_iff, List.mem_append]
  exact ⟨fun h => ⟨fun a ha => h a (.inl ha), fun a ha => h a (.inr ha)⟩, fun h a ha => ha.elim (h.1 a) (h.2 a)⟩
theorem roL_take {l : List AV} {n : Nat} (h : roL l) : roL (l.take n) := roL_iff.2 fun a ha => roL_iff.1 h a (List.mem_of_mem_take ha)
theorem roL_drop {l : List AV} {n : Nat} (h : roL l) : roL (l.drop n) := roL_iff.2 fun a ha => roL_iff.1 h a (List.mem_of_mem_drop ha)

mutual
/-- No memory behind it. -/
def flat : AV → Prop
  | .own .. | .ptr .. | .sl .. | .rp .. => False
  | .agg cs => flatL cs
  | .tup cs => flatL cs
  | .fn _ fs cap => flatL fs ∧ flatL cap
  | _ => True
def flatL : List AV → Prop
  | [] => True
  | a :: l => flat a ∧ flatL l
end

mutual
/-- As it reads: what is of the call's own as a slice, a pointer that is read alone. -/
def view (f : Nat → BS) : AV → AV
  | .own sz id off len => match f id with
    | .live _ l => .sl sz false ((l.drop off).take len)
    | _ => .any
  | .ptr id idx off => match f id with
    | .live _ l => .rp ((l.getD idx .any).cells.drop off)
    | _ => .any
  | .agg cs => .agg (viewL f cs)
  | .tup cs => .tup (viewL f cs)
  | a => a
def viewL (f : Nat → BS) : List AV → List AV
  | [] => []
  | a :: l => view f a :: viewL f l
end
mutual
/-- What is of the call's own is there, or gone, and lies within its block. -/
def fits (f : Nat → BS) : AV → Prop
  | .own sz id off len => match f id with
    | .live _ l => off + len ≤ l.length
    | .dead => True
    | .iter .. => True
    | .fresh => False
  | .ptr id idx off => match f id with
    | .live _ l => idx < l.length
    | .dead => True
    | .iter .. => True
    | .fresh => False
  | .agg cs => fitsL f cs
  | .tup cs => fitsL f cs
  | .sl _ _ l => fitsL f l
  | .rp cs => fitsL f cs
  | .fn _ fs cap => fitsL f fs ∧ fitsL f cap
  | _ => True
def fitsL (f : Nat → BS) : List AV → Prop
  | [] => True
  | a :: l => fits f a ∧ fitsL f l
end

/-! ### A value seen in another context -/
mutual
theorem Rv.ro {c c' : Cx} (hw : c'.w = c.w) (hF : ∀ b, b < c.w.heap.size → c'.F b → c.F b) : ∀ (a : AV) (v : Value), ro a → Rv c a v → Rv c' a v
  | .any, _, _, _ => trivial
  | .bool _, _, _, h => h
  | .int _ _, _, _, h => h
  | .str _, _, _, h => h
  | .agg cs, v, hro, h => by
    simp only [Rv] at h ⊢
    obtain ⟨vs, rfl, h1, h⟩ := h
    exact ⟨vs, rfl, h1, Rl.ro hw hF cs _ (by simpa only [Go.Proofs.Ytpmahilkkoengaa.ro] using hro) h⟩
  | .tup cs, v, hro, h => by
    simp only [Rv] at h ⊢
    obtain ⟨vs, rfl, h⟩ := h
    exact ⟨vs, rfl, Rl.ro hw hF cs _ (by simpa only [Go.Proofs.Ytpmahilkkoengaa.ro] using hro) h⟩
  | .sl sz tight l, v, hro, h => by
    simp only [Rv] at h ⊢
    obtain ⟨a, cap, rfl, h1, h2, h3⟩ := h
    refine ⟨a, cap, rfl, h1, h2, ?_⟩
    rcases h3 with h3 | ⟨b, o, rfl, hb, hFb, hre⟩
    · exact .inl h3
    · exact .inr ⟨b, o, rfl, by rw [hw]; exact hb, fun h => hFb (hF b hb h), Re.ro hw hF sz _ b o (by simpa only [Go.Proofs.Ytpmahilkkoengaa.ro] using hro) hre⟩
  | .own _ _ _ _, _, hro, _ => by simp only [Go.Proofs.Ytpmahilkkoengaa.ro] at hro
  | .ptr _ _ _, _, hro, _ => by simp only [Go.Proofs.Ytpmahilkkoengaa.ro] at hro
  | .rp cs, v, hro, h => by
    simp only [Rv] at h ⊢
    obtain ⟨b, o, vs, rfl, hb, hFb, h0, h1, h2⟩ := h
    exact ⟨b, o, vs, rfl, by rw [hw]; exact hb, fun h => hFb (hF b hb h), h0, Rl.ro hw hF cs vs (by simpa only [Go.Proofs.Ytpmahilkkoengaa.ro] using hro) h1, by rw [hw]; exact h2⟩
  | .fn f fs cap, v, hro, h => by
    simp only [Rv] at h ⊢
    simp only [Go.Proofs.Ytpmahilkkoengaa.ro] at hro
    obtain ⟨a, b, rfl, h1, h2⟩ := h
    exact ⟨a, b, rfl, Rl.ro hw hF fs _ hro.1 h1, Rl.ro hw hF cap _ hro.2 h2⟩
  | .nilp, _, _, h => h
theorem Rl.ro {c c' : Cx} (hw : c'.w = c.w) (hF : ∀ b, b < c.w.heap.size → c'.F b → c.F b) : ∀ (l : List AV) (vs : List Value), roL l → Rl c l vs → Rl c' l vs
  | [], _, _, h => h
  | a :: l, vs, hro, h => by
    simp only [Rl] at h ⊢
    simp only [roL] at hro
    obtain ⟨v, r, rfl, h1, h2⟩ := h
    exact ⟨v, r, rfl, Rv.ro hw hF a v hro.1 h1, Rl.ro hw hF l r hro.2 h2⟩
theorem Re.ro {c c' : Cx} (hw : c'.w = c.w) (hF : ∀ b, b < c.w.heap.size → c'.F b → c.F b) (sz : Nat) : ∀ (l : List AV) (b o : Nat), roL l → Re c sz l b o → Re c' sz l b o
  | [], _, _, _, _ => trivial
  | a :: l, b, o, hro, h => by
    simp only [Re] at h ⊢
    simp only [roL] at hro
    obtain ⟨⟨v, h1, h2, h5, h0, h3⟩, h4⟩ := h
    exact ⟨⟨v, Rv.ro hw hF a v hro.1 h1, h2, h5, h0, by rw [hw]; exact h3⟩, Re.ro hw hF sz l b _ hro.2 h4⟩
end

mutual
theorem Rv.flat {c c' : Cx} : ∀ (a : AV) (v : Value), flat a → Rv c a v → Rv c' a v
  | .any, _, _, _ => trivial
  | .bool _, _, _, h => h
  | .int _ _, _, _, h => h
  | .str _, _, _, h => h
  | .agg cs, v, hf, h => by
    simp only [Rv] at h ⊢
    obtain ⟨vs, rfl, h1, h⟩ := h
    exact ⟨vs, rfl, h1, Rl.flat cs _ (by simpa only [Go.Proofs.Ytpmahilkkoengaa.flat] using hf) h⟩
  | .tup cs, v, hf, h => by
    simp only [Rv] at h ⊢
    obtain ⟨vs, rfl, h⟩ := h
    exact ⟨vs, rfl, Rl.flat cs _ (by simpa only [Go.Proofs.Ytpmahilkkoengaa.flat] using hf) h⟩
  | .sl _ _ _, _, hf, _ => by simp only [Go.Proofs.Ytpmahilkkoengaa.flat] at hf
  | .own _ _ _ _, _, hf, _ => by simp only [Go.Proofs.Ytpmahilkkoengaa.flat] at hf
  | .ptr _ _ _, _, hf, _ => by simp only [Go.Proofs.Ytpmahilkkoengaa.flat] at hf
  | .rp _, _, hf, _ => by simp only [Go.Proofs.Ytpmahilkkoengaa.flat] at hf
  | .fn f fs cap, v, hf, h => by
    simp only [Rv] at h ⊢
    simp only [Go.Proofs.Ytpmahilkkoengaa.flat] at hf
    obtain ⟨a, b, rfl, h1, h2⟩ := h
    exact ⟨a, b, rfl, Rl.flat fs _ hf.1 h1, Rl.flat cap _ hf.2 h2⟩
  | .nilp, _, _, h => h
theorem Rl.flat {c c' : Cx} : ∀ (l : List AV) (vs : List Value), flatL l → Rl c l vs → Rl c' l vs
  | [], _, _, h => h
  | a :: l, vs, hf, h => by
    simp only [Rl] at h ⊢
    simp only [flatL] at hf
    obtain ⟨v, r, rfl, h1, h2⟩ := h
    exact ⟨v, r, rfl, Rv.flat a v hf.1 h1, Rl.flat l r hf.2 h2⟩
end

/-- The context without the call's own blocks, some forbidden. -/
def Cx.bare (c : Cx) (F : Nat → Prop) : Cx := { w := c.w, mu := fun _ => none, U := fun _ => False, F := F }

/-- What is of the call's own, seen as something that is read alone. -/
theorem view_rv1 {c : Cx} {f : Nat → BS} (hk : HOk c f) {F : Nat → Prop} (hF : ∀ b, b < c.w.heap.size → F b → c.F b) (hown : ∀ id e, c.mu id = some e → e.real = true → ¬ F e.block) :
    (∀ sz id off len v, Rv c (.own sz id off len) v → fits f (.own sz id off len) → ro (view f (.own sz id off len)) → Rv (c.bare F) (view f (.own sz id off len)) v) ∧
    (∀ id idx off v, Rv c (.ptr id idx off) v → fits f (.ptr id idx off) → ro (view f (.ptr id idx off)) → Rv (c.bare F) (view f (.ptr id idx off)) v) := by
  constructor
  · intro sz id off len v h hfit hro
    simp only [view] at hro ⊢
    split at hro
    · rename_i sz' l hf
      simp only [fits, hf] at hfit
      simp only [Rv] at h ⊢
      obtain ⟨hU, hesz, a, cap, rfl, h1, h2⟩ := h
      obtain ⟨e, he, h3, h4, h5⟩ := hk.live id sz' l hf
      have hs := hesz e he
      have hlen : ((l.drop off).take len).length = len := by simp; omega
      refine ⟨a, cap, by rw [hlen], by rw [hlen]; exact h1, by simp, ?_⟩
      rcases h2 with rfl | ⟨b, o, rfl, hall⟩
      · left; exact List.eq_nil_of_length_eq_zero (by omega)
      · obtain ⟨hr, rfl, rfl, _⟩ := hall e he
        right
        refine ⟨_, _, rfl, hk.lt he hr, hown id e he hr, ?_⟩
        obtain ⟨hre, _⟩ := h5 hr
        have := hre.slice off len
        simp only [ro] at hro
        have h6 := Re.ro (c := c) (c' := c.bare F) rfl hF sz' _ _ _ hro this
        rw [← hs, h3]; exact h6
    · rename_i hnl
      cases hf : f id with
      | live sz' l => exact absurd hf (hnl _ _)
      | _ => simp only [Rv]
  · intro id idx off v h hfit hro
    simp only [view] at hro ⊢
    split at hro
    · rename_i sz' l hf
      simp only [fits, hf] at hfit
      simp only [Rv] at h ⊢
      obtain ⟨hU, b, o, rfl, hall⟩ := h
      obtain ⟨e, he, h3, h4, h5⟩ := hk.live id sz' l hf
      obtain ⟨hr, rfl, rfl⟩ := hall e he
      obtain ⟨hre, _⟩ := h5 hr
      obtain ⟨vs, g1, g2, g3, g4⟩ := elem_cells hre (i := (idx : Int)) (by omega) (by omega)
      have hget : getE l (idx : Int) = l.getD idx .any := by simp [getE]
      rw [hget] at g3
      simp only [ro] at hro
      refine ⟨_, _, vs.drop off, rfl, hk.lt he hr, hown id e he hr, fun u hu => g2 u (List.mem_of_mem_drop hu), Rl.ro (c := c) (c' := c.bare F) rfl hF _ _ hro (g3.drop off), ?_⟩
      rw [h3]
      have := g4.drop off
      simp only [Int.toNat_natCast] at this
      exact this
    · rename_i hnl
      cases hf : f id with
      | live sz' l => exact absurd hf (hnl _ _)
      | _ => simp only [Rv]

mutual
theorem view_rv {c : Cx} {f : Nat → BS} (hk : HOk c f) {F : Nat → Prop} (hF : ∀ b, b < c.w.heap.size → F b → c.F b) (hown : ∀ id e, c.mu id = some e → e.real = true → ¬ F e.block) :
    ∀ (a : AV) (v : Value), fits f a → ro (view f a) → Rv c a v → Rv (c.bare F) (view f a) v
  | .any, _, _, _, _ => by simp only [view, Rv]
  | .bool _, _, _, _, h => by simpa only [view, Rv] using h
  | .int _ _, _, _, _, h => by simpa only [view, Rv] using h
  | .str _, _, _, _, h => by simpa only [view, Rv] using h
  | .agg cs, v, hfit, hro, h => by
    simp only [view, Rv] at h ⊢
    simp only [view, ro] at hro
    simp only [fits] at hfit
    obtain ⟨vs, rfl, h1, h⟩ := h
    exact ⟨vs, rfl, h1, viewL_rv hk hF hown cs _ hfit hro h⟩
  | .tup cs, v, hfit, hro, h => by
    simp only [view, Rv] at h ⊢
    simp only [view, ro] at hro
    simp only [fits] at hfit
    obtain ⟨vs, rfl, h⟩ := h
    exact ⟨vs, rfl, viewL_rv hk hF hown cs _ hfit hro h⟩
  | .sl sz tight l, v, _, hro, h => by
    simp only [view] at hro ⊢
    exact Rv.ro (c := c) (c' := c.bare F) rfl hF _ _ hro h
  | .own _ _ _ _, v, hfit, hro, h => (view_rv1 hk hF hown).1 _ _ _ _ v h hfit hro
  | .ptr _ _ _, v, hfit, hro, h => (view_rv1 hk hF hown).2 _ _ _ v h hfit hro
  | .rp cs, v, _, hro, h => by
    simp only [view] at hro ⊢
    exact Rv.ro (c := c) (c' := c.bare F) rfl hF _ _ hro h
  | .fn f fs cap, v, _, hro, h => by
    simp only [view] at hro ⊢
    exact Rv.ro (c := c) (c' := c.bare F) rfl hF _ _ hro h
  | .nilp, _, _, _, h => by simpa only [view, Rv] using h
theorem viewL_rv {c : Cx} {f : Nat → BS} (hk : HOk c f) {F : Nat → Prop} (hF : ∀ b, b < c.w.heap.size → F b → c.F b) (hown : ∀ id e, c.mu id = some e → e.real = true → ¬ F e.block) :
    ∀ (l : List AV) (vs : List Value), fitsL f l → roL (viewL f l) → Rl c l vs → Rl (c.bare F) (viewL f l) vs
  | [], _, _, _, h => by simpa only [viewL, Rl] using h
  | a :: l, vs, hfit, hro, h => by
    simp only [viewL, Rl] at h ⊢
    simp only [viewL, roL] at hro
    simp only [fitsL] at hfit
    obtain ⟨v, r, rfl, h1, h2⟩ := h
    exact ⟨v, r, rfl, view_rv hk hF hown a v hfit.1 hro.1 h1, viewL_rv hk hF hown l r hfit.2 hro.2 h2⟩
end

end Go.Proofs.Ytpmahilkkoengaa
