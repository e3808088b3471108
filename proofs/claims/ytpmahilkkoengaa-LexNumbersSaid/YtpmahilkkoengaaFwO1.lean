/-
  Abstract states; a region's operations one behind the other.
-/
import Derived.Test.YtpmahilkkoengaaFwN
namespace Go.Proofs.Ytpmahilkkoengaa
open Go
set_option linter.unusedSimpArgs false
set_option linter.unusedVariables false

/-- An abstract state: the temporaries, the call's own blocks, the first number not yet given out. -/
structure St where
  t : Nat → AV
  f : Nat → BS
  n : Nat

/-- The machine's state is one of the abstract state's, gone on from c0 (whose numbers are below ne). -/
def Sat (c0 : Cx) (ne N : Nat) (s : St) (a : Act) (w : World) : Prop :=
  ∃ c : Cx, c.w = w ∧ HOk c s.f ∧ (∀ j, s.n ≤ j → s.f j = .fresh) ∧ (∀ k, Rv c (s.t k) (a.tmps.getD k undef)) ∧ a.tmps.size = N ∧ a.defers = [] ∧ Stp c0 c ∧ (∀ j, c0.U j → j < ne) ∧ ne ≤ s.n

/-- s may be seen as s0. -/
def le (ne : Nat) (s s0 : St) : Prop := ∀ c0 N a w, Sat c0 ne N s a w → Sat c0 ne N s0 a w

def putA (t : Nat → AV) (dst : Option Tmp) (v : AV) : Nat → AV :=
  match dst with
  | some d => upd t d v
  | none => t

def gslot (ops : Array Oper) (j : Nat) : Option Tmp := (ops[j]?).bind (·.dst)

/-- The operations of a region, one behind the other. -/
def aops (P : Program) (z q : Bool) (ops : Array Oper) (n0 : Nat) (K : St → Prop) : Nat → List Oper → (Nat → AV) → (Nat → BS) → Nat → Prop
  | _, [], t, f, n => K ⟨t, f, n⟩
  | i, o :: rest, t, f, n =>
    match o.guard with
    | none => aop P z q (n0 + i) n o.op (aev t) f (fun v f' n' => aops P z q ops n0 K (i + 1) rest (putA t o.dst v) f' n')
    | some (j, want) =>
      match gslot ops j with
      | some d => match t d with
        | .bool b => (b = want → aop P z q (n0 + i) n o.op (aev (upd t d (.bool want))) f (fun v f' n' => aops P z q ops n0 K (i + 1) rest (putA (upd t d (.bool want)) o.dst v) f' n')) ∧
            (b = !want → aops P z q ops n0 K (i + 1) rest (putA (upd t d (.bool (!want))) o.dst (.tup [])) f n)
        | .tup [] => aops P z q ops n0 K (i + 1) rest (putA t o.dst (.tup [])) f n
        | _ => False
      | none => False

theorem upd_self {α : Type} (t : Nat → α) (d : Nat) {v : α} (h : t d = v) : upd t d v = t := by
  funext k; unfold upd; split
  · rename_i hk; rw [hk, h]
  · rfl

theorem aev_rv {c : Cx} {t : Nat → AV} {a : Act} (h : ∀ k, Rv c (t k) (a.tmps.getD k undef)) : ∀ x, Rv c (aev t x) (a.eval x) := by
  intro x
  cases x with
  | tmp n => exact h n
  | const v => exact absV_rv c v
  | global g => simp only [aev, Rv]
  | func g => simp only [aev, Rv]; exact ⟨#[], #[], rfl, by simp [Rl], by simp [Rl]⟩

theorem put_rv {c : Cx} {t : Nat → AV} {a : Act} (h : ∀ k, Rv c (t k) (a.tmps.getD k undef)) {dst : Option Tmp} (hd : ∀ d, dst = some d → d < a.tmps.size) {v : AV} {r : Value} (hr : Rv c v r) : ∀ k, Rv c (putA t dst v k) ((a.put dst r).tmps.getD k undef) := by
  intro k
  cases dst with
  | none => exact h k
  | some d =>
    have hlt := hd d rfl
    simp only [putA, Act.put, upd]
    by_cases hk : k = d
    · subst hk
      rw [if_pos rfl]
      simp [Array.getElem?_setIfInBounds, hlt, hr]
    · rw [if_neg hk]
      have := h k
      simpa [Array.getElem?_setIfInBounds_ne (Ne.symm hk)] using this

theorem put_size {a : Act} {dst : Option Tmp} {v : Value} : (a.put dst v).tmps.size = a.tmps.size := by
  cases dst <;> simp [Act.put]
theorem put_defers {a : Act} {dst : Option Tmp} {v : Value} : (a.put dst v).defers = a.defers := by
  cases dst <;> simp [Act.put]

theorem yielded_of {ops : Array Oper} {j d : Nat} {b : Bool} {c : Cx} {t : Nat → AV} {a : Act} (h : ∀ k, Rv c (t k) (a.tmps.getD k undef)) (hg : gslot ops j = some d) (ht : t d = .bool b) : yielded ops a.tmps j = some b := by
  unfold gslot at hg
  unfold yielded
  rw [hg]
  have := h d
  rw [ht] at this
  simp only [Rv] at this
  simp only [Option.bind_some]
  cases hd : a.tmps[d]? with
  | none =>
    rw [Array.getD_eq_getD_getElem?, hd] at this
    simp [undef] at this
  | some v =>
    rw [Array.getD_eq_getD_getElem?, hd] at this
    simp only [Option.getD_some] at this
    subst this; rfl

theorem undef_rv (c : Cx) : Rv c (.tup []) undef := by simp only [Rv, Rl]; exact ⟨#[], rfl, rfl⟩
theorem yielded_tup {ops : Array Oper} {j d : Nat} {c : Cx} {t : Nat → AV} {a : Act} (h : ∀ k, Rv c (t k) (a.tmps.getD k undef)) (hg : gslot ops j = some d) (ht : t d = .tup []) : yielded ops a.tmps j = none := by
  unfold gslot at hg
  unfold yielded
  rw [hg]
  have := h d
  rw [ht] at this
  simp only [Rv, Rl] at this
  obtain ⟨vs, h1, h2⟩ := this
  simp only [Option.bind_some]
  cases hd : a.tmps[d]? with
  | none => rfl
  | some v =>
    rw [Array.getD_eq_getD_getElem?, hd] at h1
    simp only [Option.getD_some] at h1
    subst h1; rfl

theorem wpList_some {P : Program} {ops : Array Oper} {Q : Exit → Act → World → Prop} {o : Oper} {rest : List Oper} {a : Act} {w : World} (hw : Region.wanted o (yielded ops a.tmps) = true) (h : o.wp P a w (wpList P ops Q rest) Q) : wpList P ops Q (o :: rest) a w := by
  unfold wpList; rw [if_pos hw]; exact .inl h
theorem wpList_none {P : Program} {ops : Array Oper} {Q : Exit → Act → World → Prop} {o : Oper} {rest : List Oper} {a : Act} {w : World} (hw : Region.wanted o (yielded ops a.tmps) = false) (h : wpList P ops Q rest (a.put o.dst undef) w) : wpList P ops Q (o :: rest) a w := by
  unfold wpList; rw [if_neg (by simp [hw])]; exact h

/-- A region's operations in the text's order. -/
theorem aops_sound {P : Program} {z q : Bool} {ops : Array Oper} {n0 ne N : Nat} {c0 : Cx} {K : St → Prop} {Q : Exit → Act → World → Prop} (hQ : ∀ s a w, K s → Sat c0 ne N s a w → Q .normal a w) :
    ∀ (l : List Oper) (i : Nat) (t : Nat → AV) (f : Nat → BS) (n : Nat) (a : Act) (c : Cx), aops P z q ops n0 K i l t f n → (∀ o ∈ l, ∀ d, o.dst = some d → d < N) → HOk c f → (∀ j, n ≤ j → f j = .fresh) → (∀ k, k < l.length → f (n0 + i + k) = .fresh) →
      n0 + i + l.length ≤ n → (∀ k, Rv c (t k) (a.tmps.getD k undef)) → a.tmps.size = N → a.defers = [] → Stp c0 c → (∀ j, c0.U j → j < ne) → ne ≤ n → wpList P ops Q l a c.w := by
  intro l
  induction l with
  | nil =>
    intro i t f n a c h _ hk hfr _ _ ht hN hd hs h0 hne
    exact wpList_nil (hQ ⟨t, f, n⟩ a c.w h ⟨c, rfl, hk, hfr, ht, hN, hd, hs, h0, hne⟩)
  | cons o rest ih =>
    intro i t f n a c h hdst hk hfr hids hle ht hN hd hs h0 hne
    simp only [List.length_cons] at hids hle
    have hds : ∀ d, o.dst = some d → d < a.tmps.size := fun d h => by rw [hN]; exact hdst o (by simp) d h
    have hid : f (n0 + i) = .fresh := by have := hids 0 (by omega); simpa using this
    have step : ∀ t', (∀ k, Rv c (t' k) (a.tmps.getD k undef)) → aop P z q (n0 + i) n o.op (aev t') f (fun v f' n' => aops P z q ops n0 K (i + 1) rest (putA t' o.dst v) f' n') → o.wp P a c.w (wpList P ops Q rest) Q := by
      intro t' ht' hop
      refine aop_sound hop hk hfr hid (by omega) (aev_rv ht') fun v c' r f' n' hK hk' hs' hr' hn' hold hnew => ?_
      refine ih (i + 1) _ f' n' _ c' hK (fun o ho => hdst o (by simp [ho])) hk' hnew (fun k hk => ?_) (by omega) (put_rv (fun k => (ht' k).keep hs' hk.shut) hds hr') (by rw [put_size]; exact hN) (by rw [put_defers]; exact hd) (hs.trans hs') h0 (by omega)
      have h1 := hids (k + 1) (by omega)
      rw [show n0 + i + (k + 1) = n0 + (i + 1) + k by omega] at h1
      exact hold _ (by omega) (by omega) h1
    simp only [aops] at h
    split at h
    · rename_i hg
      exact wpList_some (by simp [Region.wanted, hg]) (step t ht h)
    · rename_i j want hg
      split at h
      · rename_i d hgs
        split at h
        · rename_i b htd
          have hy := yielded_of ht hgs htd
          obtain ⟨h1, h2⟩ := h
          by_cases hb : b = want
          · have hu := upd_self t d (v := .bool want) (by rw [htd, hb])
            rw [hu] at h1
            exact wpList_some (by simp [Region.wanted, hg, hy, hb]) (step t ht (h1 hb))
          · have hb' : b = !want := by cases b <;> cases want <;> simp_all
            have hu := upd_self t d (v := .bool (!want)) (by rw [htd, hb'])
            rw [hu] at h2
            refine wpList_none (by simp [Region.wanted, hg, hy, hb]) ?_
            refine ih (i + 1) _ f n _ c (h2 hb') (fun o ho => hdst o (by simp [ho])) hk hfr (fun k hk => ?_) (by omega) (put_rv ht hds (undef_rv c)) (by rw [put_size]; exact hN) (by rw [put_defers]; exact hd) hs h0 hne
            have h1 := hids (k + 1) (by omega)
            rwa [show n0 + i + (k + 1) = n0 + (i + 1) + k by omega] at h1
        · rename_i htd
          have hy := yielded_tup ht hgs htd
          refine wpList_none (by simp [Region.wanted, hg, hy]) ?_
          refine ih (i + 1) _ f n _ c h (fun o ho => hdst o (by simp [ho])) hk hfr (fun k hk => ?_) (by omega) (put_rv ht hds (undef_rv c)) (by rw [put_size]; exact hN) (by rw [put_defers]; exact hd) hs h0 hne
          have h1 := hids (k + 1) (by omega)
          rwa [show n0 + i + (k + 1) = n0 + (i + 1) + k by omega] at h1
        · exact h.elim
      · exact h.elim

end Go.Proofs.Ytpmahilkkoengaa
