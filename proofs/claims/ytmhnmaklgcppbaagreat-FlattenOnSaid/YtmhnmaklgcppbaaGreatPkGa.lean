/-
  Of the seat's texts, joined: LwG.
-/
import Derived.Test.YtmhnmaklgcppbaaGreatPkPa
namespace Go.Proofs.YtmhnmaklgcppbaaGreat
open Go Go.Proofs
set_option linter.unusedSimpArgs false
set_option linter.unusedVariables false
set_option maxRecDepth 20000

theorem mixQ0 (a b : Rat) : mixQ a b 0 = a := by unfold mixQ; grind
theorem mixQ1 (a b : Rat) : mixQ a b 1 = b := by unfold mixQ; grind
theorem mixT0 (a b : HQ) : a.mixT b 0 = a := HQ.ext (mixQ0 ..) (mixQ0 ..) (mixQ0 ..)
theorem mixT1 (a b : HQ) : a.mixT b 1 = b := HQ.ext (mixQ1 ..) (mixQ1 ..) (mixQ1 ..)
theorem dc_head {p : List HQ} (hG : GoodC p) : dcH 0 p = p[0]'(by have := hG.2.1; omega) := by
  have h2 := hG.2.1; have h4 := hG.2.2
  rcases (by omega : p.length = 2 ∨ p.length = 3 ∨ p.length = 4) with h | h | h
  · obtain ⟨a, b, rfl⟩ := list2 h; rw [dc2]; simp only [mixT0]; rfl
  · obtain ⟨a, b, c, rfl⟩ := list3 h; rw [dc3]; simp only [mixT0]; rfl
  · obtain ⟨a, b, c, d, rfl⟩ := list4 h; rw [dc4]; simp only [mixT0]; rfl
theorem dc_last {p : List HQ} (hG : GoodC p) : dcH 1 p = p[p.length - 1]'(by have := hG.2.1; omega) := by
  have h2 := hG.2.1; have h4 := hG.2.2
  rcases (by omega : p.length = 2 ∨ p.length = 3 ∨ p.length = 4) with h | h | h
  · obtain ⟨a, b, rfl⟩ := list2 h; rw [dc2]; simp only [mixT1]; rfl
  · obtain ⟨a, b, c, rfl⟩ := list3 h; rw [dc3]; simp only [mixT1]; rfl
  · obtain ⟨a, b, c, d, rfl⟩ := list4 h; rw [dc4]; simp only [mixT1]; rfl

theorem flat2_get : ∀ (ls : List (List HQ)) (i : Nat) (h : i < ls.length), (ls.flatMap cut2)[2 * i]? = some (cutL ls[i].length ls[i]) ∧ (ls.flatMap cut2)[2 * i + 1]? = some (cutR ls[i].length ls[i])
  | [], i, h => by simp at h
  | a :: r, 0, h => ⟨rfl, rfl⟩
  | a :: r, i + 1, h => by
    have := flat2_get r i (by simpa using h)
    rw [show 2 * (i + 1) = 2 * i + 1 + 1 by omega]
    simpa [cut2] using this
theorem many_dc {v : List HQ} {n : Nat} (hn : 1 ≤ n) (hG : GoodC v) (hs : ∀ x ∈ v, x.sz ≤ n) (d : Nat) : ∀ i (h : i < (manyQ d v).length) (t : Rat), dcH t (manyQ d v)[i] = dcH (((i : Nat) + t) / (2 ^ d : Nat)) v := by
  induction d with
  | zero =>
    intro i h t
    have : i = 0 := by simp [manyQ] at h; omega
    subst this
    simp only [manyQ, List.getElem_cons_zero]
    congr 1
    simp
    grind
  | succ d ih =>
    intro i h t
    rw [manyQ_len] at h
    have hj : i / 2 < (manyQ d v).length := by rw [manyQ_len, Nat.div_lt_iff_lt_mul (by omega)]; rw [Nat.pow_succ] at h; omega
    obtain ⟨f1, f2⟩ := flat2_get (manyQ d v) (i / 2) hj
    have gj := (manyQ_all hn hG hs d _ (List.getElem_mem hj)).1
    have hp : (2 ^ d : Nat) ≠ 0 := Nat.ne_of_gt (Nat.pow_pos (by omega))
    have hpr : ((2 ^ d : Nat) : Rat) ≠ 0 := by exact_mod_cast hp
    have e2 : ((2 ^ (d + 1) : Nat) : Rat) = 2 * ((2 ^ d : Nat) : Rat) := by rw [Nat.pow_succ, Nat.mul_comm]; norm_cast
    rcases Nat.mod_two_eq_zero_or_one i with hi | hi
    · have hi2 : i = 2 * (i / 2) := by omega
      have e : (manyQ (d + 1) v)[i]'(by rw [manyQ_len]; exact h) = cutL (manyQ d v)[i / 2].length (manyQ d v)[i / 2] := by
        apply Option.some.inj
        rw [← List.getElem?_eq_getElem, ← f1, ← hi2]; rfl
      rw [e, dc_cutL _ gj, ih _ hj]
      congr 1
      have : ((i : Nat) : Rat) = 2 * ((i / 2 : Nat) : Rat) := by exact_mod_cast hi2
      rw [e2, this]
      grind
    · have hi2 : i = 2 * (i / 2) + 1 := by omega
      have e : (manyQ (d + 1) v)[i]'(by rw [manyQ_len]; exact h) = cutR (manyQ d v)[i / 2].length (manyQ d v)[i / 2] := by
        apply Option.some.inj
        rw [← List.getElem?_eq_getElem, ← f2, ← hi2]; rfl
      rw [e, dc_cutR _ gj, ih _ hj]
      congr 1
      have : ((i : Nat) : Rat) = 2 * ((i / 2 : Nat) : Rat) + 1 := by exact_mod_cast hi2
      rw [e2, this]
      grind
end Go.Proofs.YtmhnmaklgcppbaaGreat
