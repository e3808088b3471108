/-
  Layer 10: P10.1, the tokens of any text.
-/
import Derived.Test.YtpmahilkkoengaaLxF
namespace Go.Proofs.Ytpmahilkkoengaa
open Go Go.Proofs
set_option linter.unusedSimpArgs false
set_option linter.unusedVariables false

/-- The cut as its reader takes it. -/
def cutR (s : ByteArray) : List Tok × Int × Int :=
  if 1048576 < s.size then ([], 0, 22)
  else match scan 0 (by_ s) with
    | .ok l => (l, 0, 0)
    | .error p => ([], p, 20)
theorem cut_read (s : ByteArray) : Pure Try.prog 8 [.str s] (.tup [.sl 4 false ((cutR s).1.map tokAV), .int .i64 (cutR s).2.1, .int .i64 (cutR s).2.2]) := by
  refine (cut_pure s).weaken ?_
  unfold cutAV cutR
  split
  · exact .tup (.cons (Wk.nil 0 4 true) (.refl _))
  · cases h : scan 0 (by_ s) with
    | ok l => exact .tup (.cons (Wk.slv 4 _) (.refl _))
    | error p => exact .tup (.cons (Wk.nil 0 4 true) (.refl _))
theorem of_read (s : ByteArray) : Pure Try.prog 9 [.str s] (.agg [.sl 4 false ((cutR s).1.map tokAV), .int .i64 (cutR s).2.1, .int .i64 (cutR s).2.2]) := by
  refine (of_pure s).weaken ?_
  unfold ofAV cutR
  split
  · exact .agg (.cons (Wk.nil 0 4 true) (.refl _))
  · cases h : scan 0 (by_ s) with
    | ok l => exact .agg (.cons (Wk.slv 4 _) (.refl _))
    | error p => exact .agg (.cons (Wk.nil 0 4 true) (.refl _))
theorem scan_len : ∀ (n p : Nat) (l : List UInt8), l.length ≤ n → ∀ r, scan p l = .ok r → r.length ≤ l.length := by
  intro n
  induction n with
  | zero =>
    intro p l hl r h
    have : l = [] := List.eq_nil_of_length_eq_zero (by omega)
    subst this
    simp [scan] at h; subst h; simp
  | succ n ih =>
    intro p l hl r h
    cases l with
    | nil => simp [scan] at h; subst h; simp
    | cons c l =>
      rw [scan] at h
      cases hs : step p c l with
      | none => rw [hs] at h; cases h
      | some q =>
        obtain ⟨t, m⟩ := q
        rw [hs] at h
        simp only at h
        cases hr : scan (p + 1 + m) (l.drop m) with
        | error e => rw [hr] at h; cases h
        | ok r' =>
          rw [hr] at h
          simp only [Except.map, Except.ok.injEq] at h
          have := ih _ (l.drop m) (by simp at hl ⊢; omega) r' hr
          subst h
          simp at this ⊢
          cases t <;> simp <;> omega
theorem cutR_len (s : ByteArray) : (cutR s).1.length ≤ 1048576 := by
  unfold cutR
  split
  · simp
  · cases h : scan 0 (by_ s) with
    | ok l =>
      have := scan_len _ _ _ (Nat.le_refl _) _ h
      rw [by_len] at this
      simp only; omega
    | error p => simp

theorem lexCuts_pure (s : ByteArray) : Pure Try.prog 3 [.str s] (.bool true) := by
  refine Pure.of_go mixed Try.func3 rfl (rs := [.tmp 2]) rfl (by kernel_rfl) (by simp only [ro]) ?_
  simp [go_sem, aresK, oneOf, view, fits]
  have key : ∀ {Q : AEx → St → Prop} {d k t f n}, go Try.prog false 0 Q k (putA t d (.tup [.sl 4 false ((cutR s).1.map tokAV), .int .i64 (cutR s).2.1, .int .i64 (cutR s).2.2])) f n → goC Try.prog false 0 Q 8 [.str s] d k t f n := fun h => goC_pure _ (cut_read s) (by simp [roL, ro]) h
  refine ⟨fun h1 => ⟨fun h2 => ?_, fun h2 => ?_⟩, fun h1 => ?_⟩
  · refine goC_pure _ wakes_pure (by simp [roL]) ?_
    simp [go_sem, aresK, oneOf, view, fits]
  all_goals
    refine key ?_
    simp [go_sem, aresK, oneOf, view, fits]
    refine goC_pure _ (of_read s) (by simp [roL, ro]) ?_
    simp [go_sem, aresK, oneOf, view, fits]
    refine goC_pure _ (tokens_pure _ (by have := cutR_len s; omega)) (by simp [roL, ro, roL_tok]) ?_
    simp [go_sem, aresK, oneOf, view, fits]
    refine goC_pure _ wakes_pure (by simp [roL]) ?_
    simp [go_sem, aresK, oneOf, view, fits]
end Go.Proofs.Ytpmahilkkoengaa
