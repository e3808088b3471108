/-
  Code by abstract states: a computable weakest precondition (awp), and that the machine's own follows from it.
-/
import Derived.Test.YtpmahilkkoengaaFwDs
namespace Go.Proofs.Ytpmahilkkoengaa
open Go
set_option linter.unusedSimpArgs false
set_option linter.unusedVariables false

/-! ### Code -/
inductive AEx where
  | normal
  | exit (id : Nat)
  | ret

def awp (P : Program) (z : Bool) (ne : Nat) : Code → (AEx → St → Prop) → St → Prop
  | .skip, Q, s => Q .normal s
  | .label _, Q, s => Q .normal s
  | .region _ ops draw, Q, s => aops P (draw && (z && !lexOk false ops)) draw ops s.n (Q .normal) 0 ops.toList s.t s.f (s.n + ops.size)
  | .seq a b, Q, s => awp P z ne a (fun e s' => match e with | .normal => awp P z ne b Q s' | e => Q e s') s
  | .cond c x y, Q, s => match aev s.t c with
    | .bool b => (b = true → awp P z ne x Q s) ∧ (b = false → awp P z ne y Q s)
    | _ => False
  | .block id c, Q, s => awp P z ne c (fun e s' => match e with | .exit i => if i = id then Q .normal s' else Q (.exit i) s' | e => Q e s') s
  | .loop c, Q, s => ∃ (α : Type) (st : α → St) (m : α → Nat) (x0 : α), le ne s (st x0) ∧ ∀ x, awp P z ne c (fun e s' => match e with | .normal => ∃ y, le ne s' (st y) ∧ m y < m x | e => Q e s') (st x)
  | .exit id, Q, s => Q (.exit id) s
  | .ret, Q, s => Q .ret s
  | _, _, _ => False

def codeOk (z : Bool) (N : Nat) : Code → Bool
  | .region _ ops draw => (ops.toList.all fun o => match o.dst with | some d => decide (d < N) | none => true) && (!draw || lexOk z ops)
  | .seq a b => codeOk z N a && codeOk z N b
  | .cond _ a b => codeOk z N a && codeOk z N b
  | .block _ a => codeOk z N a
  | .loop a => codeOk z N a
  | _ => true

def QR (c0 : Cx) (ne N : Nat) (Q : AEx → St → Prop) : Exit → Act → World → Prop
  | .normal, a, w => ∃ s, Q .normal s ∧ Sat c0 ne N s a w
  | .exit i, a, w => ∃ s, Q (.exit i) s ∧ Sat c0 ne N s a w
  | .ret, a, w => ∃ s, Q .ret s ∧ Sat c0 ne N s a w
  | _, _, _ => False

theorem wp_loop_idx {P : Program} {c : Code} {Q : Exit → Act → World → Prop} {a : Act} {w : World} {α : Type} (I : α → Act → World → Prop) (μ : α → Nat) (x0 : α) (h₀ : I x0 a w)
    (round : ∀ x a w, I x a w → c.wp P (Exit.then (fun a' w' => ∃ y, I y a' w' ∧ μ y < μ x) Q) a w) : (Code.loop c).wp P Q a w := by
  intro b k cs
  have key : ∀ n x a w, μ x = n → I x a w →
      ∃ e a' w', Q e a' w' ∧ Arrives P (lone (b.at a (.code c :: .inLoop c :: k)) cs w) b k cs e a' w' := by
    intro n
    induction n using Nat.strongRecOn with
    | _ n ih =>
      intro x a w hn hI
      obtain ⟨e, a₁, w₁, hq, harr⟩ := round x a w hI b (.inLoop c :: k) cs
      cases e with
      | normal =>
        obtain ⟨y, hI₁, hlt⟩ := hq
        obtain ⟨e₂, a₂, w₂, hq₂, harr₂⟩ := ih (μ y) (hn ▸ hlt) y a₁ w₁ rfl hI₁
        exact ⟨e₂, a₂, w₂, hq₂, .of_steps (Steps.trans harr (.one step_inLoop)) harr₂⟩
      | exit id => exact ⟨_, a₁, w₁, hq, .pass (x := .inLoop c) rfl (fun _ _ => .inl (by simp)) harr⟩
      | goto l => exact ⟨_, a₁, w₁, hq, .pass (x := .inLoop c) rfl (fun _ _ => .inl (by simp)) harr⟩
      | ret => exact ⟨_, a₁, w₁, hq, .pass (x := .inLoop c) rfl (fun _ _ => .inl (by simp)) harr⟩
      | panic ch => exact ⟨_, a₁, w₁, hq, .pass (x := .inLoop c) rfl (fun _ _ => .inl (by simp)) harr⟩
      | outgrown => exact ⟨_, a₁, w₁, hq, .pass (x := .inLoop c) rfl (fun _ _ => .inl (by simp)) harr⟩
  obtain ⟨e, a', w', hq, harr⟩ := key _ x0 a w rfl h₀
  exact ⟨e, a', w', hq, .of_steps (.one step_loop) harr⟩

theorem Sat.mono_n {c0 : Cx} {ne N : Nat} {s : St} {a : Act} {w : World} (h : Sat c0 ne N s a w) : ne ≤ s.n := by
  obtain ⟨c, _, _, _, _, _, _, _, _, h⟩ := h; exact h

theorem awp_sound {P : Program} {z : Bool} (hm : P.follows .mixedOrders = true) {c0 : Cx} {ne N : Nat} : ∀ (c : Code) (Q : AEx → St → Prop) (s : St) (a : Act) (w : World), codeOk z N c = true → awp P z ne c Q s → Sat c0 ne N s a w → c.wp P (QR c0 ne N Q) a w := by
  intro c
  induction c with
  | skip => intro Q s a w _ h hs; exact wp_skip ⟨s, h, hs⟩
  | label l => intro Q s a w _ h hs; exact wp_label ⟨s, h, hs⟩
  | exit i => intro Q s a w _ h hs; exact wp_exit ⟨s, h, hs⟩
  | ret => intro Q s a w _ h hs; exact wp_ret ⟨s, h, hs⟩
  | region id ops draw =>
    intro Q s a w hok h hs
    simp only [codeOk, Bool.and_eq_true, List.all_eq_true] at hok
    have hdst : ∀ o ∈ ops.toList, ∀ d, o.dst = some d → d < N := fun o ho d hd => by
      have := hok.1 o ho
      rw [hd] at this
      simpa using this
    cases draw with
    | false =>
      obtain ⟨c, rfl, hk, hfr, ht, hN, hd, hst, h0, hne⟩ := hs
      refine wp_region_list ?_
      simp only [awp] at h
      exact aops_sound (c0 := c0) (ne := ne) (N := N) (fun s a w hK hS => ⟨s, hK, hS⟩) ops.toList 0 s.t s.f (s.n + ops.size) a c h hdst hk (fun j hj => hfr j (by omega)) (fun k hk => hfr _ (by omega)) (by simp) ht hN hd hst h0 (by omega)
    | true =>
      simp only [awp] at h
      exact draw_sound hm (by
        have h2 : lexOk z ops = true := by simpa using hok.2
        cases h3 : lexOk false ops with
        | true => simpa using h3
        | false => simpa using h2) hdst (fun s a w hK hS => ⟨s, hK, hS⟩) h hs
  | seq x y ihx ihy =>
    intro Q s a w hok h hs
    simp only [codeOk, Bool.and_eq_true] at hok
    simp only [awp] at h
    refine wp_seq (wp_mono (ihx _ s a w hok.1 h hs) fun e a' w' hq => ?_)
    cases e <;> simp only [QR] at hq <;> simp only [Exit.then]
    case normal => obtain ⟨s', h1, h2⟩ := hq; exact ihy Q s' a' w' hok.2 h1 h2
    all_goals exact hq
  | cond c x y ihx ihy =>
    intro Q s a w hok h hs
    simp only [codeOk, Bool.and_eq_true] at hok
    simp only [awp] at h
    split at h
    · rename_i b hb
      have hev : a.eval c = .bool b := by
        obtain ⟨cx, _, _, _, ht, _⟩ := hs
        have := aev_rv ht c
        rw [hb] at this; simpa only [Rv] using this
      exact wp_cond_split hev (fun h1 => ihx Q s a w hok.1 (h.1 h1) hs) (fun h1 => ihy Q s a w hok.2 (h.2 h1) hs)
    · exact h.elim
  | block id c ih =>
    intro Q s a w hok h hs
    simp only [codeOk] at hok
    simp only [awp] at h
    refine wp_block (wp_mono (ih _ s a w hok h hs) fun e a' w' hq => ?_)
    cases e <;> simp only [QR] at hq <;> simp only [Exit.inBlock]
    case normal => exact hq
    case exit i =>
      obtain ⟨s', h1, h2⟩ := hq
      split at h1
      · rename_i hi; rw [if_pos hi]; exact ⟨s', h1, h2⟩
      · rename_i hi; rw [if_neg hi]; exact ⟨s', h1, h2⟩
    case ret => exact hq
  | loop c ih =>
    intro Q s a w hok h hs
    simp only [codeOk] at hok
    simp only [awp] at h
    obtain ⟨α, st, m, x0, hle, hround⟩ := h
    refine wp_loop_idx (fun x a w => Sat c0 ne N (st x) a w) m x0 (hle c0 N a w hs) fun x a' w' hI => ?_
    refine wp_mono (ih _ (st x) a' w' hok (hround x) hI) fun e a2 w2 hq => ?_
    cases e <;> simp only [QR] at hq <;> simp only [Exit.then]
    case normal =>
      obtain ⟨s', ⟨y, h1, h2⟩, h3⟩ := hq
      exact ⟨y, h1 c0 N a2 w2 h3, h2⟩
    all_goals exact hq
  | _ => intro Q s a w _ h hs; simp only [awp] at h

end Go.Proofs.Ytpmahilkkoengaa
