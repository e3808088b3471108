/-
  A region whose order is drawn: where the operations that do not wait for one another are apart, and do not both touch memory, the text's order serves every order.
-/
import Derived.Test.YtpmahilkkoengaaFwO1
namespace Go.Proofs.Ytpmahilkkoengaa
open Go
set_option linter.unusedSimpArgs false
set_option linter.unusedVariables false

/-! ### What an operation sees of the temporaries -/
theorem vop_congr {P : Program} {ρ ρ' : Operand → AV} {op : Op} (h : ∀ x ∈ op.operands, ρ x = ρ' x) : vop P ρ op = vop P ρ' op := by
  have fc : ∀ (place : Nat → Option (Nat × Nat)) (l : List (Nat × Operand)) (cs : List AV), (∀ p ∈ l, ρ p.2 = ρ' p.2) → fillA place ρ l cs = fillA place ρ' l cs := by
    intro place l
    induction l with
    | nil => intro cs _; rfl
    | cons p l ih =>
      obtain ⟨i, x⟩ := p
      intro cs hp
      simp only [fillA, hp (i, x) (by simp)]
      cases place i with
      | none => rfl
      | some q =>
        obtain ⟨off, size⟩ := q
        simp only
        rw [ih _ fun p hp' => hp p (by simp [hp'])]
  have oc : ∀ o : Option Operand, (∀ x ∈ o, ρ x = ρ' x) → optInt ρ o = optInt ρ' o := by
    intro o ho
    cases o with
    | none => rfl
    | some x => simp only [optInt, ho x rfl]
  have mc : ∀ xs : Array Operand, (∀ x ∈ xs, ρ x = ρ' x) → xs.toList.map ρ = xs.toList.map ρ' := fun xs hx => List.map_congr_left fun x hx' => hx x (by simpa using hx')
  cases op <;> simp only [Op.operands] at h <;> simp only [vop] <;> try rfl
  case build t ps =>
    have hp : ∀ p ∈ ps.toList, ρ p.2 = ρ' p.2 := fun p hp => h p.2 (by
      simp only [List.mem_toArray, List.mem_map]
      exact ⟨p, hp, rfl⟩)
    simp only [fc _ ps.toList _ hp]
  case makeFunc fn a b => rw [mc a fun x hx => h x (by simp [hx]), mc b fun x hx => h x (by simp [hx])]
  case slice t x lo hi mx =>
    rw [oc lo fun y hy => h y (by cases hy; simp), oc hi fun y hy => h y (by cases hy; simp), oc mx fun y hy => h y (by cases hy; simp), h x (by simp)]
  case call c =>
    obtain ⟨callee, args, ats⟩ := c
    simp only [Call.operands] at h
    have ha : ∀ x ∈ args.toList, ρ x = ρ' x := fun x hx => h x (by simp; exact .inr (by simpa using hx))
    cases callee <;> try rfl
    rename_i b
    cases b <;> try rfl
    all_goals
      simp only
      revert ha
      generalize args.toList = l
      generalize ats.toList = m
      intro ha
      rcases l with _ | ⟨x, _ | ⟨y, _ | ⟨z, l⟩⟩⟩ <;> rcases m with _ | ⟨t, _ | ⟨t2, m⟩⟩ <;> first
        | rfl
        | (simp only [ha x (by simp), ha y (by simp)]; done)
        | (simp only [ha x (by simp)]; done)
  case move x => simp only [h x (by simp)]
  case assign x => simp only [h x (by simp)]
  case pick x y z => simp only [h x (by simp), h y (by simp), h z (by simp)]
  case unOp o t x => simp only [h x (by simp)]
  case binOp o t x y t' => simp only [h x (by simp), h y (by simp)]
  case fieldAddr t x j => simp only [h x (by simp)]
  case field t x j => simp only [h x (by simp)]
  case indexAddr t x y => simp only [h x (by simp), h y (by simp)]
  case index t x y => simp only [h x (by simp), h y (by simp)]
  case extract x j => simp only [h x (by simp)]
  case nilCheck x => simp only [h x (by simp)]

theorem rop_congr {P : Program} {f : Nat → BS} {ρ ρ' : Operand → AV} {op : Op} (h : ∀ x ∈ op.operands, ρ x = ρ' x) : rop P f ρ op = rop P f ρ' op := by
  cases op <;> simp only [Op.operands] at h <;> simp only [rop]
  case load t a => simp only [h a (by simp)]
  case convert t t' x => simp only [h x (by simp)]

theorem gop_congr {P : Program} {id : Nat} {ρ ρ' : Operand → AV} {op : Op} (h : ∀ x ∈ op.operands, ρ x = ρ' x) : gop P id ρ op = gop P id ρ' op := by
  cases op <;> simp only [Op.operands] at h <;> simp only [gop]
  case box t x => simp only [h x (by simp)]
  case makeSlice t l c => simp only [h l (by simp), h c (by simp)]
  case buildSlice t len ps =>
    have hp : ∀ p ∈ ps.toList, ρ p.2 = ρ' p.2 := fun p hp => h p.2 (by
      simp only [List.mem_toArray, List.mem_map]
      exact ⟨p, hp, rfl⟩)
    have h1 : (ps.toList.map fun p => ρ p.2) = ps.toList.map fun p => ρ' p.2 := List.map_congr_left hp
    have h2 : ∀ n, (ps.toList.all fun p => (ρ p.2).shaped n) = ps.toList.all fun p => (ρ' p.2).shaped n := fun n => by
      rw [Bool.eq_iff_iff, List.all_eq_true, List.all_eq_true]
      exact ⟨fun g p hp' => by rw [← hp p hp']; exact g p hp', fun g p hp' => by rw [hp p hp']; exact g p hp'⟩
    simp only [h1, h2]

theorem lop_congr {P : Program} {id : Nat} {f : Nat → BS} {ρ ρ' : Operand → AV} {K : AV → (Nat → BS) → Prop} {op : Op} (h : ∀ x ∈ op.operands, ρ x = ρ' x) : lop P id f ρ K op = lop P id f ρ' K op := by
  cases op <;> simp only [Op.operands] at h <;> simp only [lop]
  case store t x v => simp only [h x (by simp), h v (by simp)]
  case range t x => simp only [h x (by simp)]
  case next it b => simp only [h it (by simp)]
  case call c =>
    obtain ⟨callee, args, ats⟩ := c
    simp only [Call.operands] at h
    have ha : ∀ x ∈ args.toList, ρ x = ρ' x := fun x hx => h x (by simp; exact .inr (by simpa using hx))
    cases callee <;> try rfl
    rename_i b
    cases b <;> try rfl
    revert ha
    generalize args.toList = l
    generalize ats.toList = m
    intro ha
    rcases l with _ | ⟨x, _ | ⟨y, _ | ⟨z, l⟩⟩⟩ <;> rcases m with _ | ⟨t, _ | ⟨t2, _ | ⟨t3, m⟩⟩⟩ <;> first
      | rfl
      | (simp only [ha x (by simp), ha y (by simp)]; done)

theorem lop_out {P : Program} {id : Nat} {f : Nat → BS} {ρ : Operand → AV} {K : AV → (Nat → BS) → Prop} {op : Op} (h : lop P id f ρ K op) : ∃ v f', (∀ K' : AV → (Nat → BS) → Prop, K' v f' → lop P id f ρ K' op) ∧ K v f' ∧ ∀ m, m ≠ id → f m = .fresh → f' m = .fresh := by
  cases op <;> (try (simp only [lop] at h; done))
  case store t x v =>
    simp only [lop] at h
    split at h
    · rename_i ti i idx off ht hxa
      split at h
      · rename_i sz l hf
        obtain ⟨h1, h2, h3, h4, h5⟩ := h
        refine ⟨_, _, fun K' hK' => ?_, h5, fun m hm hfm => by rw [upd_ne _ _ _ (fun h => by subst h; rw [hf] at hfm; cases hfm)]; exact hfm⟩
        simp only [lop, ht, hxa, hf]
        exact ⟨h1, h2, h3, h4, hK'⟩
      · exact h.elim
    · exact h.elim
  case range t x =>
    simp only [lop] at h
    split at h
    · rename_i ti s ht hxa
      split at h
      · rename_i hk1
        refine ⟨_, _, fun K' hK' => ?_, h, fun m hm hfm => by rw [upd_ne _ _ _ hm]; exact hfm⟩
        simp only [lop, ht, hxa, hk1]
        exact hK'
      · exact h.elim
    · exact h.elim
  case next it b =>
    simp only [lop] at h
    split at h
    · rename_i i hxa
      split at h
      · rename_i s p hf
        obtain ⟨hb, h⟩ := h
        split at h
        · rename_i hlt
          refine ⟨_, _, fun K' hK' => ?_, h, fun m hm hfm => by rw [upd_ne _ _ _ (fun h => by subst h; rw [hf] at hfm; cases hfm)]; exact hfm⟩
          simp only [lop, hxa, hf, hlt, if_true]
          exact ⟨hb, hK'⟩
        · rename_i hlt
          refine ⟨_, _, fun K' hK' => ?_, h, fun m hm hfm => hfm⟩
          simp only [lop, hxa, hf, hlt, if_false]
          exact ⟨hb, hK'⟩
      · exact h.elim
    · exact h.elim
  case call c =>
    obtain ⟨callee, args, argTypes⟩ := c
    simp only [lop] at h
    split at h
    · rename_i t t' x y hat hal
      split at h
      · rename_i ti ti' ht ht'
        split at h
        · rename_i e e' hke hke'
          split at h
          · rename_i te hte
            split at h
            · rename_i sz i off len new hxa hn
              split at h
              · rename_i sz' L hf
                obtain ⟨g1, g2, g3, g4, g5⟩ := h
                refine ⟨_, _, fun K' hK' => ?_, g5, fun m hm hfm => by rw [upd_ne _ _ _ hm, upd_ne _ _ _ (fun h => by subst h; rw [hf] at hfm; cases hfm)]; exact hfm⟩
                simp only [lop, hat, hal, ht, ht', hke, hke', hte, hxa, hn, hf]
                exact ⟨g1, g2, g3, g4, hK'⟩
              · exact h.elim
            · rename_i sz tight l new hxa hn
              obtain ⟨g1, g2, g3, g4, g5⟩ := h
              refine ⟨_, _, fun K' hK' => ?_, g5, fun m hm hfm => by rw [upd_ne _ _ _ hm]; exact hfm⟩
              simp only [lop, hat, hal, ht, ht', hke, hke', hte, hxa, hn]
              exact ⟨g1, g2, g3, g4, hK'⟩
            · exact h.elim
          · exact h.elim
        · exact h.elim
      · exact h.elim
    · exact h.elim

theorem callee_congr {ρ ρ' : Operand → AV} {c : Call} (h : ∀ x ∈ c.operands, ρ x = ρ' x) : calleeA ρ c = calleeA ρ' c := by
  obtain ⟨callee, args, ats⟩ := c
  simp only [Call.operands] at h
  have ha : ∀ x ∈ args.toList, ρ x = ρ' x := fun x hx => h x (by simp; exact .inr (by simpa using hx))
  cases callee <;> try rfl
  rename_i x
  simp only [calleeA, h x (by simp), List.map_congr_left ha]

/-! ### Effects -/
mutual
theorem view_upd {f : Nat → BS} {j : Nat} {b : BS} (hj : f j = .fresh) : ∀ a : AV, fits f a → view (upd f j b) a = view f a ∧ (b ≠ .fresh → fits (upd f j b) a)
  | .any, _ => ⟨rfl, fun _ => by simp only [fits]⟩
  | .bool _, _ => ⟨rfl, fun _ => by simp only [fits]⟩
  | .int _ _, _ => ⟨rfl, fun _ => by simp only [fits]⟩
  | .str _, _ => ⟨rfl, fun _ => by simp only [fits]⟩
  | .agg cs, h => by
    have := viewL_upd hj (b := b) cs (by simpa only [fits] using h)
    exact ⟨by simp only [view, this.1], fun hb => by simp only [fits]; exact this.2 hb⟩
  | .tup cs, h => by
    have := viewL_upd hj (b := b) cs (by simpa only [fits] using h)
    exact ⟨by simp only [view, this.1], fun hb => by simp only [fits]; exact this.2 hb⟩
  | .sl _ _ l, h => by
    have := viewL_upd hj (b := b) l (by simpa only [fits] using h)
    exact ⟨rfl, fun hb => by simp only [fits]; exact this.2 hb⟩
  | .own sz id off len, h => by
    have hne : id ≠ j := fun he => by subst he; simp only [fits, hj] at h
    constructor
    · simp only [view, upd_ne _ _ _ hne]
    · intro _; simp only [fits, upd_ne _ _ _ hne] at h ⊢; exact h
  | .ptr id idx off, h => by
    have hne : id ≠ j := fun he => by subst he; simp only [fits, hj] at h
    constructor
    · simp only [view, upd_ne _ _ _ hne]
    · intro _; simp only [fits, upd_ne _ _ _ hne] at h ⊢; exact h
  | .rp cs, h => by
    have := viewL_upd hj (b := b) cs (by simpa only [fits] using h)
    exact ⟨rfl, fun hb => by simp only [fits]; exact this.2 hb⟩
  | .fn g fs cap, h => by
    simp only [fits] at h
    have h1 := viewL_upd hj (b := b) fs h.1
    have h2 := viewL_upd hj (b := b) cap h.2
    exact ⟨rfl, fun hb => by simp only [fits]; exact ⟨h1.2 hb, h2.2 hb⟩⟩
  | .nilp, _ => ⟨rfl, fun _ => by simp only [fits]⟩
theorem viewL_upd {f : Nat → BS} {j : Nat} {b : BS} (hj : f j = .fresh) : ∀ l : List AV, fitsL f l → viewL (upd f j b) l = viewL f l ∧ (b ≠ .fresh → fitsL (upd f j b) l)
  | [], _ => ⟨rfl, fun _ => by simp only [fitsL]⟩
  | a :: l, h => by
    simp only [fitsL] at h
    have h1 := view_upd hj (b := b) a h.1
    have h2 := viewL_upd hj (b := b) l h.2
    exact ⟨by simp only [viewL, h1.1, h2.1], fun hb => by simp only [fitsL]; exact ⟨h1.2 hb, h2.2 hb⟩⟩
end

def Eff (P : Program) (z : Bool) (id : Nat) (op : Op) (ρ : Operand → AV) (f : Nat → BS) (v : AV) (e : Option BS) : Prop :=
  match clsOf op with
  | .v => (∃ s, vop P ρ op = some (s, v) ∧ s) ∧ e = none
  | .r => (∃ s, rop P (fz z f) ρ op = some (s, v) ∧ s) ∧ e = none
  | .g => ∃ s b, gop P id ρ op = some (s, v, b) ∧ s ∧ e = some b
  | .c => (∃ c g args, op = .call c ∧ calleeA ρ c = some (g, args) ∧ Pure P g (viewL f args) v ∧ roL (viewL f args) ∧ fitsL f args ∧ (roL args ∨ flat v)) ∧ e = none
  | .l => False
def appE (f : Nat → BS) (id : Nat) : Option BS → Nat → BS
  | some b => upd f id b
  | none => f

theorem aop_eff {P : Program} {z : Bool} {id n : Nat} {op : Op} {ρ : Operand → AV} {f : Nat → BS} {K : AV → (Nat → BS) → Nat → Prop} (hc : clsOf op ≠ .l) : aop P z true id n op ρ f K ↔ ∃ v e, Eff P z id op ρ f v e ∧ K v (appE f id e) n := by
  unfold aop Eff
  cases h : clsOf op with
  | v =>
    simp only
    cases hv : vop P ρ op with
    | none => simp
    | some q =>
      obtain ⟨s, v⟩ := q
      constructor
      · intro ⟨h1, h2⟩; exact ⟨v, none, ⟨⟨s, rfl, h1⟩, rfl⟩, h2⟩
      · rintro ⟨v', e, ⟨⟨s', h1, h2⟩, rfl⟩, h3⟩
        simp only [Option.some.injEq, Prod.mk.injEq] at h1
        obtain ⟨rfl, rfl⟩ := h1
        exact ⟨h2, h3⟩
  | r =>
    simp only
    rw [Bool.and_true]
    cases hv : rop P (fz z f) ρ op with
    | none => simp
    | some q =>
      obtain ⟨s, v⟩ := q
      constructor
      · intro ⟨h1, h2⟩; exact ⟨v, none, ⟨⟨s, rfl, h1⟩, rfl⟩, h2⟩
      · rintro ⟨v', e, ⟨⟨s', h1, h2⟩, rfl⟩, h3⟩
        simp only [Option.some.injEq, Prod.mk.injEq] at h1
        obtain ⟨rfl, rfl⟩ := h1
        exact ⟨h2, h3⟩
  | g =>
    simp only
    cases hv : gop P id ρ op with
    | none => simp
    | some q =>
      obtain ⟨s, v, b⟩ := q
      constructor
      · intro ⟨h1, h2⟩; exact ⟨v, some b, ⟨s, b, rfl, h1, rfl⟩, h2⟩
      · rintro ⟨v', e, ⟨s', b', h1, h2, rfl⟩, h3⟩
        simp only [Option.some.injEq, Prod.mk.injEq] at h1
        obtain ⟨rfl, rfl, rfl⟩ := h1
        exact ⟨h2, h3⟩
  | l => exact absurd h hc
  | c =>
    simp only
    cases op <;> (try (simp [clsOf] at h; done))
    rename_i c
    simp only
    cases hv : calleeA ρ c with
    | none =>
      simp only [false_iff]
      rintro ⟨v', e, ⟨⟨c', g, args, h1, h2, _⟩, _⟩, _⟩
      simp only [Op.call.injEq] at h1
      subst h1; rw [hv] at h2; cases h2
    | some q =>
      obtain ⟨g, args⟩ := q
      constructor
      · rintro ⟨r, h1, h2, h3, h4, h5⟩; exact ⟨r, none, ⟨⟨c, g, args, rfl, hv, h1, h2, h3, h4⟩, rfl⟩, h5⟩
      · rintro ⟨v', e, ⟨⟨c', g', args', h1, h2, h3, h4, h5, h6⟩, rfl⟩, h7⟩
        simp only [Op.call.injEq] at h1
        subst h1; rw [hv] at h2
        simp only [Option.some.injEq, Prod.mk.injEq] at h2
        obtain ⟨rfl, rfl⟩ := h2
        exact ⟨v', h3, h4, h5, h6, h7⟩

theorem Eff.congr {P : Program} {z : Bool} {id : Nat} {op : Op} {ρ ρ' : Operand → AV} {f : Nat → BS} {v : AV} {e : Option BS} (h : ∀ x ∈ op.operands, ρ x = ρ' x) (he : Eff P z id op ρ f v e) : Eff P z id op ρ' f v e := by
  unfold Eff at *
  split at he
  · rw [← vop_congr h]; exact he
  · rw [← rop_congr h]; exact he
  · rw [← gop_congr h]; exact he
  · obtain ⟨⟨c, g, args, rfl, h2, h3⟩, h4⟩ := he
    exact ⟨⟨c, g, args, rfl, by rw [← callee_congr (by simpa [Op.operands] using h)]; exact h2, h3⟩, h4⟩
  · exact he

theorem Eff.grow {P : Program} {z : Bool} {id : Nat} {op : Op} {ρ : Operand → AV} {f : Nat → BS} {v : AV} {e : Option BS} (he : Eff P z id op ρ f v e) {j : Nat} (hj : f j = .fresh) {b : BS} (hb : b ≠ .fresh) : Eff P z id op ρ (upd f j b) v e := by
  unfold Eff at *
  split at he
  · exact he
  · obtain ⟨⟨s, h1, h2⟩, h3⟩ := he
    refine ⟨⟨s, ?_, h2⟩, h3⟩
    cases z with
    | true => exact h1
    | false =>
    simp only [fz, Bool.false_eq_true, if_false] at h1 ⊢
    cases op <;> (try (simp only [rop] at h1; cases h1; done))
    · rename_i t a
      simp only [rop] at h1 ⊢
      split at h1
      · exact h1
      · rename_i ti i idx off ht hxa
        split at h1
        · rename_i sz l hf
          have hne : i ≠ j := fun h => by subst h; rw [hf] at hj; cases hj
          simp only [upd_ne _ _ _ hne, hf]; exact h1
        · cases h1
      · cases h1
    · rename_i a b' y _
      simp only [rop] at h1 ⊢
      cases hx : ρ y <;> rw [hx] at h1 <;> simp only [convV] at h1 ⊢ <;> try exact h1
      rename_i sz i off len
      simp only [elemsA, fitsA] at h1 ⊢
      cases hf : f i with
      | live sz' l =>
        have hne : i ≠ j := fun h => by subst h; rw [hf] at hj; cases hj
        rw [hf] at h1
        simp only [upd_ne _ _ _ hne, hf]; exact h1
      | fresh => rw [hf] at h1; simp only [slStr_none] at h1; cases h1
      | dead => rw [hf] at h1; simp only [slStr_none] at h1; cases h1
      | iter s p => rw [hf] at h1; simp only [slStr_none] at h1; cases h1
  · exact he
  · obtain ⟨⟨c, g, args, rfl, h2, h3, h4, h5, h6⟩, h7⟩ := he
    obtain ⟨g1, g2⟩ := viewL_upd hj (b := b) args h5
    exact ⟨⟨c, g, args, rfl, h2, by rw [g1]; exact h3, by rw [g1]; exact h4, g2 hb, h6⟩, h7⟩
  · exact he

theorem Eff.indep {P : Program} {z : Bool} {id : Nat} {op : Op} {ρ : Operand → AV} {f f' : Nat → BS} {v : AV} {e : Option BS} (hc : clsOf op = .v ∨ clsOf op = .g ∨ (clsOf op = .r ∧ z = true)) (he : Eff P z id op ρ f v e) : Eff P z id op ρ f' v e := by
  unfold Eff at *
  rcases hc with h | h | ⟨h, rfl⟩
  · rw [h] at he ⊢; exact he
  · rw [h] at he ⊢; exact he
  · rw [h] at he ⊢; exact he

theorem Eff.made {P : Program} {z : Bool} {id : Nat} {op : Op} {ρ : Operand → AV} {f : Nat → BS} {v : AV} {b : BS} (he : Eff P z id op ρ f v (some b)) : clsOf op = .g ∧ b ≠ .fresh := by
  unfold Eff at he
  split at he
  · cases he.2
  · cases he.2
  · rename_i h
    refine ⟨h, ?_⟩
    obtain ⟨s, b', h1, h2, h3⟩ := he
    injection h3 with h3; subst h3
    cases op <;> (try (simp only [gop] at h1; cases h1; done))
    case alloc t =>
      simp only [gop] at h1
      cases ht : tiOf P t <;> rw [ht] at h1 <;> simp at h1
      rw [← h1.2.2]; simp
    case box t x =>
      simp only [gop] at h1
      cases ht : tiOf P t <;> rw [ht] at h1 <;> simp at h1
      rw [← h1.2.2.2]; simp
    case buildSlice t len ps =>
      simp only [gop] at h1
      split at h1
      · split at h1
        · split at h1
          · split at h1
            · simp at h1; rw [← h1.2.2]; simp
            · cases h1
          · cases h1
        · cases h1
      · cases h1
    case makeSlice t l c =>
      simp only [gop] at h1
      split at h1
      · split at h1
        · split at h1
          · simp at h1; rw [← h1.2.2]; simp
          · cases h1
        · cases h1
      · cases h1
  · cases he.2
  · exact he.elim

end Go.Proofs.Ytpmahilkkoengaa
