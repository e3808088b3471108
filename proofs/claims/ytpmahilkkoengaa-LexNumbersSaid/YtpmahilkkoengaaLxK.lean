/-
  Layer 10: the plain law: texts side by side.
-/
import Derived.Test.YtpmahilkkoengaaLxI
namespace Go.Proofs.Ytpmahilkkoengaa
open Go Go.Proofs
set_option linter.unusedSimpArgs false
set_option linter.unusedVariables false

def shT (d : Nat) (t : Tok) : Tok := { t with p := t.p + d }
def shR (d : Nat) : Except Nat (List Tok) → Except Nat (List Tok)
  | .ok l => .ok (l.map (shT d))
  | .error e => .error (e + d)
theorem step_shift (p d : Nat) (c : UInt8) (r : List UInt8) : step (p + d) c r = (step p c r).map fun q => (q.1.map (shT d), q.2) := by
  unfold step
  by_cases h1 : kind (c.toNat : Nat) = 1
  · simp [h1]
  by_cases h2 : kind (c.toNat : Nat) = 2
  · simp [h2, shT]
  by_cases h3 : kind (c.toNat : Nat) = 3
  · simp [h3, shT]
  by_cases h4 : kind (c.toNat : Nat) = 4
  · by_cases h0 : runL r 3 = 0
    · simp [h4, h0]
    · simp [h4, h0, shT]
  by_cases h5 : kind (c.toNat : Nat) = 5
  · simp [h5, shT]
  · simp [h1, h2, h3, h4, h5]
theorem scan_shift (d : Nat) : ∀ (n p : Nat) (l : List UInt8), l.length ≤ n → scan (p + d) l = shR d (scan p l) := by
  intro n
  induction n with
  | zero =>
    intro p l h
    have : l = [] := List.eq_nil_of_length_eq_zero (by omega)
    subst this
    simp [scan, shR]
  | succ n ih =>
    intro p l h
    cases l with
    | nil => simp [scan, shR]
    | cons c r =>
      rw [scan, scan, step_shift]
      cases hs : step p c r with
      | none => rfl
      | some q =>
        obtain ⟨t, m⟩ := q
        simp only [Option.map_some]
        rw [show p + d + 1 + m = (p + 1 + m) + d by omega, ih (p + 1 + m) (r.drop m) (by simp at h ⊢; omega)]
        cases scan (p + 1 + m) (r.drop m) with
        | error e => rfl
        | ok l => cases t <;> simp [shR, Except.map]

/-- No run goes on into it. -/
def Fence (r : List UInt8) : Prop := ∀ c r', r = c :: r' → kind (c.toNat : Nat) ≠ 2 ∧ kind (c.toNat : Nat) ≠ 3
theorem runL_app {l r : List UInt8} {k : Int} (h : ∀ c r', r = c :: r' → kind (c.toNat : Nat) ≠ k) : runL (l ++ r) k = runL l k := by
  induction l with
  | nil =>
    cases r with
    | nil => rfl
    | cons c r =>
      unfold runL
      rw [List.nil_append, List.takeWhile_cons_of_neg (by simpa using h c r rfl)]
      rfl
  | cons b l ih =>
    by_cases hb : kind (b.toNat : Nat) = k
    · rw [List.cons_append, runL_cons hb, runL_cons hb, ih]
    · unfold runL
      rw [List.cons_append, List.takeWhile_cons_of_neg (by simpa using hb), List.takeWhile_cons_of_neg (by simpa using hb)]
theorem step_app {p : Nat} {c : UInt8} {l r : List UInt8} (h : Fence r) : step p c (l ++ r) = step p c l := by
  have h2 : runL (l ++ r) 2 = runL l 2 := runL_app fun c r' hr => (h c r' hr).1
  have h3 : runL (l ++ r) 3 = runL l 3 := runL_app fun c r' hr => (h c r' hr).2
  unfold step
  rw [h2, h3, List.take_append_of_le_length (runL_le l 2), List.take_append_of_le_length (runL_le l 3)]
theorem step_len {p : Nat} {c : UInt8} {l : List UInt8} {t : Option Tok} {m : Nat} (h : step p c l = some (t, m)) : m ≤ l.length := by
  have h2 := runL_le l 2
  have h3 := runL_le l 3
  unfold step at h
  by_cases k1 : kind (c.toNat : Nat) = 1
  · simp [k1] at h; omega
  by_cases k2 : kind (c.toNat : Nat) = 2
  · simp [k2] at h; omega
  by_cases k3 : kind (c.toNat : Nat) = 3
  · simp [k3] at h; omega
  by_cases k4 : kind (c.toNat : Nat) = 4
  · by_cases h0 : runL l 3 = 0
    · simp [k4, h0] at h
    · simp [k4, h0] at h; omega
  by_cases k5 : kind (c.toNat : Nat) = 5
  · simp [k5] at h; omega
  · simp [k1, k2, k3, k4, k5] at h
theorem scan_app {r : List UInt8} (hr : Fence r) : ∀ (n p : Nat) (l : List UInt8), l.length ≤ n → scan p (l ++ r) = match scan p l with
    | .error e => .error e
    | .ok a => (scan (p + l.length) r).map (a ++ ·) := by
  intro n
  induction n with
  | zero =>
    intro p l h
    have : l = [] := List.eq_nil_of_length_eq_zero (by omega)
    subst this
    simp [scan]
    cases scan p r <;> rfl
  | succ n ih =>
    intro p l h
    cases l with
    | nil => simp [scan]; cases scan p r <;> rfl
    | cons c l =>
      rw [List.cons_append, scan, scan, step_app hr]
      cases hs : step p c l with
      | none => rfl
      | some q =>
        obtain ⟨t, m⟩ := q
        have hm := step_len hs
        simp only
        rw [List.drop_append_of_le_length hm, ih (p + 1 + m) (l.drop m) (by simp at h ⊢; omega)]
        cases scan (p + 1 + m) (l.drop m) with
        | error e => rfl
        | ok a =>
          simp only [Except.map, List.length_drop, List.length_cons]
          rw [show p + 1 + m + (l.length - m) = p + (l.length + 1) by omega]
          cases scan (p + (l.length + 1)) r <;> simp
theorem scan_blank {p : Nat} {c : UInt8} {r : List UInt8} (h : kind (c.toNat : Nat) = 1) : scan p (c :: r) = scan (p + 1) r := by
  rw [scan]
  simp only [step, h, if_true, List.drop_zero, Nat.add_zero]
  cases scan (p + 1) r <;> simp [Except.map]
theorem fence_blank {c : UInt8} {r : List UInt8} (h : kind (c.toNat : Nat) = 1) : Fence (c :: r) := by
  intro c' r' he
  simp only [List.cons.injEq] at he
  obtain ⟨rfl, rfl⟩ := he
  rw [h]; decide

/-- Two texts, with blanks and commas between. -/
theorem scan_two (s t : List UInt8) : scan 0 (32 :: 44 :: (s ++ 44 :: 32 :: (t ++ [44, 44]))) = match scan 0 s, scan 0 t with
    | .ok a, .ok b => .ok (a.map (shT 2) ++ b.map (shT (4 + s.length)))
    | .error e, _ => .error (e + 2)
    | _, .error e => .error (e + (4 + s.length)) := by
  rw [scan_blank (by decide), scan_blank (by decide), scan_app (fence_blank (by decide)) _ _ _ (Nat.le_refl _), scan_blank (by decide), scan_blank (by decide), scan_app (fence_blank (by decide)) _ _ _ (Nat.le_refl _), scan_blank (by decide), scan_blank (by decide), scan]
  rw [show scan (0 + 1 + 1) s = shR 2 (scan 0 s) by rw [← scan_shift 2 _ 0 s (Nat.le_refl _)], show scan (0 + 1 + 1 + s.length + 1 + 1) t = shR (4 + s.length) (scan 0 t) by rw [← scan_shift (4 + s.length) _ 0 t (Nat.le_refl _)]; congr 1; omega]
  cases scan 0 s <;> cases scan 0 t <;> simp [shR, Except.map]
end Go.Proofs.Ytpmahilkkoengaa
