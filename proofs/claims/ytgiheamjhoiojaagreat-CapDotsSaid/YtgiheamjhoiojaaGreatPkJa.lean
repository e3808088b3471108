import Derived.Test.YtgiheamjhoiojaaGreatPkOa
import Derived.Test.YtgiheamjhoiojaaGreatPkFb
import Derived.Test.YtgiheamjhoiojaaGreatPkEa
namespace Go.Proofs.YtgiheamjhoiojaaGreat
open Go Go.Proofs
set_option linter.unusedSimpArgs false
set_option linter.unusedVariables false
set_option maxRecDepth 20000
def frp (g : Nat) (R : List AV) : AV → AV
  | .ptr id idx off => if id = g ∧ idx = 0 then .rp (R.drop off) else .ptr id idx off
  | a => a
def frpB (g : Nat) (j : Nat) (b : BS) : BS := if j = g then .dead else b
section
variable {P : Program} {z : Bool} {ne : Nat} {Q : AEx → St → Prop} {k : List Itm} {t : Nat → AV} {f : Nat → BS} {n : Nat}
end
attribute [go_sem] frp frpB
section
variable {P : Program} {z : Bool} {ne : Nat} {Q : AEx → St → Prop} {k : List Itm} {t : Nat → AV} {f : Nat → BS} {n : Nat}
end
def atl (x g m : Rat) : Prop := if 0 < g then 0 ≤ x ∧ g * g * m ≤ x * x else 0 ≤ x ∨ x * x ≤ g * g * m
instance (x g m : Rat) : Decidable (atl x g m) := by unfold atl; split <;> infer_instance
def sharpQ (u v : PQ) (m : Rat) : Prop := u ≠ ⟨0, 0⟩ ∧ v ≠ ⟨0, 0⟩ ∧ 0 < m ∧ atl (u.dot v) (2 / (m * m) - 1) (u.dot u * v.dot v)
instance (u v : PQ) (m : Rat) : Decidable (sharpQ u v m) := inferInstanceAs (Decidable (_ ∧ _))
theorem PQ.sz_neg (p : PQ) : p.neg.sz = p.sz := by
  unfold PQ.neg PQ.sz; simp only [Go.Proofs.YtgiheamjhoiojaaGreat.sz_neg]
def mayJ (s : SR) : Prop := 0 < s.width.val ∧ 0 < s.tol.val ∧ 0 ≤ s.join ∧ s.join ≤ 2 ∧ (s.join = 0 → 1 ≤ s.miter.val ∧ s.miter.val ≤ 64)
instance (s : SR) : Decidable (mayJ s) := inferInstanceAs (Decidable (_ ∧ _))
theorem fitA_some (n : PQ) (k : Nat) : fitA (some (n, k)) = .tup [pA n, .int .i64 k, .int .i64 0] := rfl
theorem fitA_none : fitA none = .tup [pZ, .int .i64 0, .int .i64 24] := rfl
theorem fit_sz {v : PQ} {h tol : Rat} {n : PQ} {k : Nat} (hf : fitQ v h tol = some (n, k)) (hv : v.sz ≤ 1000) (hh : sz h ≤ 1000) : n.sz ≤ 7261 := by
  obtain ⟨rfl, _, _, hk⟩ := fitK_some _ _ hf
  have := sz_off (v := v) (h := h) (k := k) (by omega)
  omega
end Go.Proofs.YtgiheamjhoiojaaGreat
