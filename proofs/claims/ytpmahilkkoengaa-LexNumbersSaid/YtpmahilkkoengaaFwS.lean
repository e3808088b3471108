/-
  A state seen as another one, of which less is said; loops; small rules.
-/
import Derived.Test.YtpmahilkkoengaaFwR
namespace Go.Proofs.Ytpmahilkkoengaa
open Go
set_option linter.unusedSimpArgs false
set_option linter.unusedVariables false

mutual
/-- Its numbers are below n. -/
def clo (n : Nat) : AV → Prop
  | .own _ id _ _ => id < n
  | .ptr id _ _ => id < n
  | .agg cs => cloL n cs
  | .tup cs => cloL n cs
  | .sl _ _ l => cloL n l
  | .rp cs => cloL n cs
  | .fn _ fs cap => cloL n fs ∧ cloL n cap
  | _ => True
def cloL (n : Nat) : List AV → Prop
  | [] => True
  | a :: l => clo n a ∧ cloL n l
end
theorem cloL_iff {n : Nat} {l : List AV} : cloL n l ↔ ∀ a ∈ l, clo n a := by
  induction l with
  | nil => simp [cloL]
  | cons a l ih => simp [cloL, ih]
mutual
theorem clo_ro {n : Nat} : ∀ a : AV, ro a → clo n a
  | .any, _ => by simp only [clo]
  | .bool _, _ => by simp only [clo]
  | .int _ _, _ => by simp only [clo]
  | .str _, _ => by simp only [clo]
  | .agg cs, h => by simp only [clo]; exact cloL_ro cs (by simpa only [ro] using h)
  | .tup cs, h => by simp only [clo]; exact cloL_ro cs (by simpa only [ro] using h)
  | .sl _ _ l, h => by simp only [clo]; exact cloL_ro l (by simpa only [ro] using h)
  | .own _ _ _ _, h => by simp only [ro] at h
  | .ptr _ _ _, h => by simp only [ro] at h
  | .rp cs, h => by simp only [clo]; exact cloL_ro cs (by simpa only [ro] using h)
  | .fn _ fs cap, h => by
    simp only [ro] at h
    simp only [clo]; exact ⟨cloL_ro fs h.1, cloL_ro cap h.2⟩
  | .nilp, _ => by simp only [clo]
theorem cloL_ro {n : Nat} : ∀ l : List AV, roL l → cloL n l
  | [], _ => by simp only [cloL]
  | a :: l, h => by
    simp only [roL] at h
    simp only [cloL]; exact ⟨clo_ro a h.1, cloL_ro l h.2⟩
end

mutual
/-- Its numbers called by other names. -/
def ren (rn : Nat → Nat) : AV → AV
  | .own sz id off len => .own sz (rn id) off len
  | .ptr id idx off => .ptr (rn id) idx off
  | .agg cs => .agg (renL rn cs)
  | .tup cs => .tup (renL rn cs)
  | .sl sz tight l => .sl sz tight (renL rn l)
  | .rp cs => .rp (renL rn cs)
  | .fn f fs cap => .fn f (renL rn fs) (renL rn cap)
  | a => a
def renL (rn : Nat → Nat) : List AV → List AV
  | [] => []
  | a :: l => ren rn a :: renL rn l
end
theorem renL_map (rn : Nat → Nat) (l : List AV) : renL rn l = l.map (ren rn) := by
  induction l with
  | nil => rfl
  | cons a l ih => simp only [renL, List.map_cons, ih]
theorem renL_append (rn : Nat → Nat) (l m : List AV) : renL rn (l ++ m) = renL rn l ++ renL rn m := by simp only [renL_map, List.map_append]
theorem cloL_append (n : Nat) (l m : List AV) : cloL n (l ++ m) = (cloL n l ∧ cloL n m) := by
  simp only [cloL_iff, List.mem_append, eq_iff_iff]
  exact ⟨fun h => ⟨fun a ha => h a (.inl ha), fun a ha => h a (.inr ha)⟩, fun h a ha => ha.elim (h.1 a) (h.2 a)⟩
theorem renL_length (rn : Nat → Nat) (l : List AV) : (renL rn l).length = l.length := by rw [renL_map, List.length_map]
mutual
theorem ren_ro (rn : Nat → Nat) : ∀ a : AV, ro a → ren rn a = a
  | .any, _ => rfl
  | .bool _, _ => rfl
  | .int _ _, _ => rfl
  | .str _, _ => rfl
  | .agg cs, h => by simp only [ren]; rw [renL_ro rn cs (by simpa only [ro] using h)]
  | .tup cs, h => by simp only [ren]; rw [renL_ro rn cs (by simpa only [ro] using h)]
  | .sl _ _ l, h => by simp only [ren]; rw [renL_ro rn l (by simpa only [ro] using h)]
  | .own _ _ _ _, h => by simp only [ro] at h
  | .ptr _ _ _, h => by simp only [ro] at h
  | .rp cs, h => by simp only [ren]; rw [renL_ro rn cs (by simpa only [ro] using h)]
  | .fn _ fs cap, h => by
    simp only [ro] at h
    simp only [ren]; rw [renL_ro rn fs h.1, renL_ro rn cap h.2]
  | .nilp, _ => rfl
theorem renL_ro (rn : Nat → Nat) : ∀ l : List AV, roL l → renL rn l = l
  | [], _ => rfl
  | a :: l, h => by
    simp only [roL] at h
    simp only [renL]; rw [ren_ro rn a h.1, renL_ro rn l h.2]
end
mutual
theorem ren_id : ∀ a : AV, ren id a = a
  | .any => rfl
  | .bool _ => rfl
  | .int _ _ => rfl
  | .str _ => rfl
  | .agg cs => by simp only [ren]; rw [renL_id cs]
  | .tup cs => by simp only [ren]; rw [renL_id cs]
  | .sl _ _ l => by simp only [ren]; rw [renL_id l]
  | .own _ _ _ _ => rfl
  | .ptr _ _ _ => rfl
  | .rp cs => by simp only [ren]; rw [renL_id cs]
  | .fn _ fs cap => by simp only [ren]; rw [renL_id fs, renL_id cap]
  | .nilp => rfl
theorem renL_id : ∀ l : List AV, renL id l = l
  | [] => rfl
  | a :: l => by simp only [renL]; rw [ren_id a, renL_id l]
end
theorem ren_isAgg (rn : Nat → Nat) (a : AV) : (ren rn a).isAgg = a.isAgg := by cases a <;> rfl

mutual
theorem Rv.clo {c c' : Cx} {n : Nat} (hw : c'.w = c.w) (hF : c'.F = c.F) (hU : ∀ id, id < n → c'.U id) {rn : Nat → Nat} (hm : ∀ id e, c'.mu id = some e → c.mu (rn id) = some e) : ∀ (a : AV) (v : Value), clo n a → Rv c (ren rn a) v → Rv c' a v
  | .any, _, _, _ => trivial
  | .bool _, _, _, h => h
  | .int _ _, _, _, h => h
  | .str _, _, _, h => h
  | .agg cs, v, hro, h => by
    simp only [Rv, ren] at h ⊢
    obtain ⟨vs, rfl, h1, h⟩ := h
    exact ⟨vs, rfl, h1, Rl.clo hw hF hU hm cs _ (by simpa only [Go.Proofs.Ytpmahilkkoengaa.clo] using hro) h⟩
  | .tup cs, v, hro, h => by
    simp only [Rv, ren] at h ⊢
    obtain ⟨vs, rfl, h⟩ := h
    exact ⟨vs, rfl, Rl.clo hw hF hU hm cs _ (by simpa only [Go.Proofs.Ytpmahilkkoengaa.clo] using hro) h⟩
  | .sl sz tight l, v, hro, h => by
    simp only [Rv, ren] at h ⊢
    obtain ⟨a, cap, h0, h1, h2, h3⟩ := h
    rw [renL_length] at h0 h1 h2
    subst h0
    replace h3 : l = [] ∨ _ := h3.imp_left fun h => List.eq_nil_of_length_eq_zero (by rw [← renL_length rn l, h]; rfl)
    refine ⟨a, cap, rfl, h1, h2, ?_⟩
    rcases h3 with h3 | ⟨b, o, rfl, hb, hFb, hre⟩
    · exact .inl h3
    · exact .inr ⟨b, o, rfl, by rw [hw]; exact hb, by rw [hF]; exact hFb, Re.clo hw hF hU hm sz _ b o (by simpa only [Go.Proofs.Ytpmahilkkoengaa.clo] using hro) hre⟩
  | .own sz id off len, v, hro, h => by
    simp only [Rv, ren] at h ⊢
    simp only [Go.Proofs.Ytpmahilkkoengaa.clo] at hro
    obtain ⟨h1, h2, a, cap, rfl, h3, h4⟩ := h
    exact ⟨hU id hro, fun e he => h2 e (hm id e he), a, cap, rfl, h3, h4.imp (fun x => x) fun ⟨b, o, ha, h5⟩ => ⟨b, o, ha, fun e he => h5 e (hm id e he)⟩⟩
  | .ptr id idx off, v, hro, h => by
    simp only [Rv, ren] at h ⊢
    simp only [Go.Proofs.Ytpmahilkkoengaa.clo] at hro
    obtain ⟨h1, b, o, rfl, h2⟩ := h
    exact ⟨hU id hro, b, o, rfl, fun e he => h2 e (hm id e he)⟩
  | .rp cs, v, hro, h => by
    simp only [Rv, ren] at h ⊢
    obtain ⟨b, o, vs, rfl, hb, hFb, h0, h1, h2⟩ := h
    exact ⟨b, o, vs, rfl, by rw [hw]; exact hb, by rw [hF]; exact hFb, h0, Rl.clo hw hF hU hm cs vs (by simpa only [Go.Proofs.Ytpmahilkkoengaa.clo] using hro) h1, by rw [hw]; exact h2⟩
  | .fn f fs cap, v, hro, h => by
    simp only [Rv, ren] at h ⊢
    simp only [Go.Proofs.Ytpmahilkkoengaa.clo] at hro
    obtain ⟨a, b, rfl, h1, h2⟩ := h
    exact ⟨a, b, rfl, Rl.clo hw hF hU hm fs _ hro.1 h1, Rl.clo hw hF hU hm cap _ hro.2 h2⟩
  | .nilp, _, _, h => h
theorem Rl.clo {c c' : Cx} {n : Nat} (hw : c'.w = c.w) (hF : c'.F = c.F) (hU : ∀ id, id < n → c'.U id) {rn : Nat → Nat} (hm : ∀ id e, c'.mu id = some e → c.mu (rn id) = some e) : ∀ (l : List AV) (vs : List Value), cloL n l → Rl c (renL rn l) vs → Rl c' l vs
  | [], _, _, h => h
  | a :: l, vs, hro, h => by
    simp only [Rl, renL] at h ⊢
    simp only [cloL] at hro
    obtain ⟨v, r, rfl, h1, h2⟩ := h
    exact ⟨v, r, rfl, Rv.clo hw hF hU hm a v hro.1 h1, Rl.clo hw hF hU hm l r hro.2 h2⟩
theorem Re.clo {c c' : Cx} {n : Nat} (hw : c'.w = c.w) (hF : c'.F = c.F) (hU : ∀ id, id < n → c'.U id) {rn : Nat → Nat} (hm : ∀ id e, c'.mu id = some e → c.mu (rn id) = some e) (sz : Nat) : ∀ (l : List AV) (b o : Nat), cloL n l → Re c sz (renL rn l) b o → Re c' sz l b o
  | [], _, _, _, _ => trivial
  | a :: l, b, o, hro, h => by
    simp only [Re, renL, ren_isAgg] at h ⊢
    simp only [cloL] at hro
    obtain ⟨⟨v, h1, h2, h5, h0, h3⟩, h4⟩ := h
    exact ⟨⟨v, Rv.clo hw hF hU hm a v hro.1 h1, h2, h5, h0, by rw [hw]; exact h3⟩, Re.clo hw hF hU hm sz l b _ hro.2 h4⟩
end

theorem le_of {ne : Nat} {t t0 : Nat → AV} {f f0 : Nat → BS} {n n0 : Nat} (rn : Nat → Nat) (hne : ne ≤ n0) (hlow : ∀ id, id < ne → rn id = id) (hinj : ∀ i j, (f0 i ≠ .dead ∧ f0 i ≠ .fresh) → (f0 j ≠ .dead ∧ f0 j ≠ .fresh) → rn i = rn j → i = j)
    (ht : ∀ k, t0 k = .any ∨ (t k = ren rn (t0 k) ∧ clo n0 (t0 k))) (hl : ∀ id sz l, f0 id = .live sz l → f (rn id) = .live sz (renL rn l) ∧ cloL n0 l) (hi : ∀ id s p, f0 id = .iter s p → f (rn id) = .iter s p)
    (hfr : ∀ id, f0 id = .fresh ↔ n0 ≤ id) : le ne ⟨t, f, n⟩ ⟨t0, f0, n0⟩ := by
  rintro c0 N a w ⟨c, rfl, hk, hfr', ht', hN, hd, hs, h0, hne'⟩
  have hmu : ∀ id e, (match f0 id with | .live .. | .iter .. => c.mu (rn id) | _ => none) = some e → c.mu (rn id) = some e := by
    intro id e h
    split at h <;> first | exact h | cases h
  have hlv : ∀ id e, (match f0 id with | .live .. | .iter .. => c.mu (rn id) | _ => none) = some e → f0 id ≠ .dead ∧ f0 id ≠ .fresh := by
    intro id e h
    split at h
    · rename_i h1; rw [h1]; simp
    · rename_i h1; rw [h1]; simp
    · cases h
  let c' : Cx := { w := c.w, mu := fun id => match f0 id with | .live .. | .iter .. => c.mu (rn id) | _ => none, U := fun id => f0 id ≠ .fresh, F := c.F }
  have hU : ∀ id, id < n0 → c'.U id := fun id hid h => by have := (hfr id).1 h; omega
  refine ⟨c', rfl, ?_, fun j hj => (hfr j).2 hj, fun k => ?_, hN, hd, ?_, h0, hne⟩
  · constructor
    · intro id; exact Iff.rfl
    · intro id h; show (match f0 id with | .live .. | .iter .. => c.mu (rn id) | _ => none) = none
      simp only at h
      rcases h with h | h <;> rw [h]
    · intro id sz l h
      simp only at h
      obtain ⟨g1, g2⟩ := hl id sz l h
      obtain ⟨e, he, h1, h2, h3⟩ := hk.live (rn id) sz _ g1
      refine ⟨e, ?_, h1, fun hr => (List.eq_nil_of_length_eq_zero (by rw [← renL_length rn l, h2 hr]; rfl)), fun hr => ?_⟩
      · show (match f0 id with | .live .. | .iter .. => c.mu (rn id) | _ => none) = some e
        rw [h]; exact he
      · obtain ⟨hre, rest⟩ := h3 hr
        refine ⟨Re.clo (c := c) (c' := c') rfl rfl hU hmu sz l _ _ g2 hre, ?_⟩
        simpa only [renL_length] using rest
    · intro id s p h
      simp only at h
      obtain ⟨e, he, h1⟩ := hk.iter (rn id) s p (hi id s p h)
      refine ⟨e, ?_, h1⟩
      show (match f0 id with | .live .. | .iter .. => c.mu (rn id) | _ => none) = some e
      rw [h]; exact he
    · intro i j ei ej h1 h2 hr hrj hb
      exact hinj i j (hlv i ei h1) (hlv j ej h2) (hk.inj (rn i) (rn j) ei ej (hmu i ei h1) (hmu j ej h2) hr hrj hb)
    · intro id e h; exact hk.shut (rn id) e (hmu id e h)
  · rcases ht k with h | ⟨h1, h2⟩
    · simp only [h, Rv]
    · have := ht' k
      simp only at this
      rw [h1] at this
      exact Rv.clo (c := c) (c' := c') rfl rfl hU hmu _ _ h2 this
  · refine ⟨hs.os, hs.tape, hs.output, hs.size, hs.keep, fun id h => hU id (by have := h0 id h; omega), fun id h => ?_, fun id e h hr => hs.new (rn id) e (hmu id e h) hr, hs.F⟩
    show (match f0 id with | .live .. | .iter .. => c.mu (rn id) | _ => none) = c0.mu id ∨ (match f0 id with | .live .. | .iter .. => c.mu (rn id) | _ => none) = none
    rw [hlow id (h0 id h)]
    split
    · exact hs.mu id h
    · exact hs.mu id h
    · exact .inr rfl

/-- Temporaries, told one by one. -/
def tm : List (Nat × AV) → Nat → AV
  | [] => fun _ => .any
  | (k, v) :: r => upd (tm r) k v
/-- Blocks, told one by one; the others below n are gone. -/
def hp (n : Nat) : List (Nat × BS) → Nat → BS
  | [] => fun id => if id < n then .dead else .fresh
  | (k, b) :: r => upd (hp n r) k b
@[go_sem] theorem tm_nil : tm [] = fun _ => AV.any := rfl
@[go_sem] theorem tm_cons (k : Nat) (v : AV) (r : List (Nat × AV)) : tm ((k, v) :: r) = upd (tm r) k v := rfl
@[go_sem] theorem hp_cons (n k : Nat) (b : BS) (r : List (Nat × BS)) : hp n ((k, b) :: r) = upd (hp n r) k b := rfl

def cloB (n : Nat) : BS → Prop
  | .live _ l => cloL n l
  | .fresh => False
  | _ => True

theorem tm_or (l : List (Nat × AV)) (k : Nat) : tm l k = .any ∨ ∃ p ∈ l, p.1 = k ∧ tm l k = p.2 := by
  induction l with
  | nil => exact .inl rfl
  | cons p l ih =>
    obtain ⟨j, v⟩ := p
    by_cases h : k = j
    · subst h; exact .inr ⟨(k, v), by simp, rfl, upd_same _ _ _⟩
    · rw [tm_cons, upd_ne _ _ _ h]
      exact ih.imp (fun x => x) fun ⟨p, h1, h2⟩ => ⟨p, by simp [h1], h2⟩
theorem hp_or (n : Nat) (l : List (Nat × BS)) (k : Nat) : hp n l k = (if k < n then .dead else .fresh) ∨ ∃ p ∈ l, p.1 = k ∧ hp n l k = p.2 := by
  induction l with
  | nil => exact .inl rfl
  | cons p l ih =>
    obtain ⟨j, v⟩ := p
    by_cases h : k = j
    · subst h; exact .inr ⟨(k, v), by simp, rfl, upd_same _ _ _⟩
    · rw [hp_cons, upd_ne _ _ _ h]
      exact ih.imp (fun x => x) fun ⟨p, h1, h2⟩ => ⟨p, by simp [h1], h2⟩

/-- New names, told one by one. -/
def nm : List (Nat × Nat) → Nat → Nat
  | [] => fun id => id
  | (k, v) :: r => fun id => if id = k then v else nm r id
@[go_sem] theorem nm_nil (id : Nat) : nm [] id = id := rfl
@[go_sem] theorem nm_cons (k v : Nat) (r : List (Nat × Nat)) (id : Nat) : nm ((k, v) :: r) id = if id = k then v else nm r id := rfl
def renB (rn : Nat → Nat) : BS → BS
  | .live sz l => .live sz (renL rn l)
  | b => b
@[go_sem] theorem renB_live (rn : Nat → Nat) (sz : Nat) (l : List AV) : renB rn (.live sz l) = .live sz (renL rn l) := rfl
@[go_sem] theorem renB_iter (rn : Nat → Nat) (s : ByteArray) (p : Nat) : renB rn (.iter s p) = .iter s p := rfl
attribute [go_sem] ren renL renL_append cloL_append cloL

theorem le_lists {ne : Nat} {t : Nat → AV} {f : Nat → BS} {n n0 : Nat} {tl : List (Nat × AV)} {hl : List (Nat × BS)} (rl : List (Nat × Nat)) (hrl : ∀ p ∈ rl, ne ≤ p.1) (hri : ∀ p ∈ hl, ∀ q ∈ hl, nm rl p.1 = nm rl q.1 → p.1 = q.1) (hne : ne ≤ n0) (ht : ∀ p ∈ tl, t p.1 = ren (nm rl) p.2 ∧ clo n0 p.2) (hh : ∀ p ∈ hl, p.1 < n0 ∧ f (nm rl p.1) = renB (nm rl) p.2 ∧ cloB n0 p.2) :
    le ne ⟨t, f, n⟩ ⟨tm tl, hp n0 hl, n0⟩ := by
  have hmem : ∀ i, (hp n0 hl i ≠ .dead ∧ hp n0 hl i ≠ .fresh) → ∃ p ∈ hl, p.1 = i := by
    intro i hi
    rcases hp_or n0 hl i with h | ⟨p, h1, h2, _⟩
    · rw [h] at hi; split at hi <;> simp at hi
    · exact ⟨p, h1, h2⟩
  refine le_of (nm rl) hne (fun id hid => ?_) (fun i j hi hj hij => ?_) (fun k => ?_) (fun id sz l h => ?_) (fun id s p h => ?_) fun id => ?_
  · clear hri ht hh
    induction rl with
    | nil => rfl
    | cons p rl ih =>
      obtain ⟨k, v⟩ := p
      have := hrl (k, v) (by simp)
      simp only at this
      rw [nm_cons, if_neg (by omega)]
      exact ih fun q hq => hrl q (by simp [hq])
  · obtain ⟨p, h1, rfl⟩ := hmem i hi
    obtain ⟨q, h2, rfl⟩ := hmem j hj
    exact hri p h1 q h2 hij
  · rcases tm_or tl k with h | ⟨p, h1, rfl, h3⟩
    · exact .inl h
    · rw [h3]; exact .inr (ht p h1)
  · rcases hp_or n0 hl id with h1 | ⟨p, h1, rfl, h3⟩
    · rw [h] at h1; split at h1 <;> cases h1
    · obtain ⟨_, g2, g3⟩ := hh p h1
      rw [h3] at h; rw [h] at g2 g3
      exact ⟨g2, g3⟩
  · rcases hp_or n0 hl id with h1 | ⟨q, h1, rfl, h3⟩
    · rw [h] at h1; split at h1 <;> cases h1
    · obtain ⟨_, g2, g3⟩ := hh q h1
      rw [h3] at h; rw [h] at g2
      exact g2
  · rcases hp_or n0 hl id with h1 | ⟨p, h1, rfl, h3⟩
    · rw [h1]; split <;> simp <;> omega
    · obtain ⟨g1, g2, g3⟩ := hh p h1
      rw [h3]
      constructor
      · intro h; rw [h] at g3; simp only [cloB] at g3
      · intro h; omega

/-- A state, told by lists. -/
def sof (n : Nat) (tl : List (Nat × AV)) (hl : List (Nat × BS)) : St := ⟨tm tl, hp n hl, n⟩

section
variable {P : Program} {z : Bool} {ne : Nat} {Q : AEx → St → Prop} {k : List Itm} {t : Nat → AV} {f : Nat → BS} {n : Nat}
/-- A loop: what is known of the temporaries and of the blocks ahead of each round. -/
theorem go_loops {c : Code} {α : Type} (tl : α → List (Nat × AV)) (hl : α → List (Nat × BS)) (m : α → Nat) (x0 : α) (rl : List (Nat × Nat)) (hrl : ∀ p ∈ rl, ne ≤ p.1) (hri : ∀ p ∈ hl x0, ∀ q ∈ hl x0, nm rl p.1 = nm rl q.1 → p.1 = q.1) (hne : ne ≤ n) (ht : ∀ p ∈ tl x0, t p.1 = ren (nm rl) p.2 ∧ clo n p.2) (hh : ∀ p ∈ hl x0, p.1 < n ∧ f (nm rl p.1) = renB (nm rl) p.2 ∧ cloB n p.2)
    (h : ∀ x, go P z ne Q (.code c :: .lp α (fun y => sof n (tl y) (hl y)) m x :: k) (tm (tl x)) (hp n (hl x)) n) : go P z ne Q (.code (.loop c) :: k) t f n :=
  go_loop (fun y => sof n (tl y) (hl y)) m x0 (le_lists rl hrl hri hne ht hh) h
/-- The next round. -/
theorem go_again {n0 : Nat} {α : Type} {tl : α → List (Nat × AV)} {hl : α → List (Nat × BS)} {m : α → Nat} {x : α} (y : α) (hm : m y < m x) (rl : List (Nat × Nat)) (hrl : ∀ p ∈ rl, ne ≤ p.1) (hri : ∀ p ∈ hl y, ∀ q ∈ hl y, nm rl p.1 = nm rl q.1 → p.1 = q.1) (hne : ne ≤ n0) (ht : ∀ p ∈ tl y, t p.1 = ren (nm rl) p.2 ∧ clo n0 p.2) (hh : ∀ p ∈ hl y, p.1 < n0 ∧ f (nm rl p.1) = renB (nm rl) p.2 ∧ cloB n0 p.2) :
    go P z ne Q (.lp α (fun y => sof n0 (tl y) (hl y)) m x :: k) t f n := by
  rw [go_lp]
  exact ⟨y, le_lists rl hrl hri hne ht hh, hm⟩
end

/-! ### Numbers -/
theorem w64 {x : Int} (h : -9223372036854775808 ≤ x ∧ x ≤ 9223372036854775807) : IntKind.i64.wrap x = x := by rw [IntKind.wrap_i64]; omega
theorem wu64 {x : Int} (h : 0 ≤ x ∧ x ≤ 18446744073709551615) : IntKind.u64.wrap x = x := by
  simp only [IntKind.wrap, IntKind.bits, IntKind.signed]
  simp only [Bool.false_and, Bool.false_eq_true, if_false]
  omega
end Go.Proofs.Ytpmahilkkoengaa
