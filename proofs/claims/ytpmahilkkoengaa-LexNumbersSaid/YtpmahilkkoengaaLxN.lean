/-
  Layer 10: a number is what its digits say.
-/
import Derived.Test.YtpmahilkkoengaaLxL
namespace Go.Proofs.Ytpmahilkkoengaa
open Go Go.Proofs
set_option linter.unusedSimpArgs false
set_option linter.unusedVariables false

/-- The number of digits, not cut. -/
def valL (n : Int) : List UInt8 → Int
  | [] => n
  | b :: r => valL (n * 10 + ((b.toNat : Int) - 48)) r
def Dig (l : List UInt8) : Prop := ∀ b ∈ l, kind (b.toNat : Nat) = 3
theorem dig_cons {b : UInt8} {l : List UInt8} : Dig (b :: l) ↔ kind (b.toNat : Nat) = 3 ∧ Dig l := by simp [Dig]
theorem dig_append {l m : List UInt8} : Dig (l ++ m) ↔ Dig l ∧ Dig m := by
  simp only [Dig, List.mem_append]
  exact ⟨fun h => ⟨fun b hb => h b (.inl hb), fun b hb => h b (.inr hb)⟩, fun h b hb => hb.elim (h.1 b) (h.2 b)⟩
theorem valL_ge : ∀ (l : List UInt8) (n : Int), Dig l → 0 ≤ n → n * 10 ^ l.length ≤ valL n l
  | [], n, _, _ => by simp [valL]
  | b :: l, n, h, hn => by
    obtain ⟨h1, h2⟩ := dig_cons.1 h
    have hb := kind_digit.1 h1
    have := valL_ge l (n * 10 + ((b.toNat : Int) - 48)) h2 (by omega)
    have hp : (0 : Int) < 10 ^ l.length := Int.pow_pos (by decide)
    simp only [valL, List.length_cons, Int.pow_succ]
    refine Int.le_trans ?_ this
    rw [show n * (10 ^ l.length * 10) = (n * 10) * 10 ^ l.length by rw [Int.mul_assoc, Int.mul_comm (10 ^ l.length) 10]]
    exact Int.mul_le_mul_of_nonneg_right (by omega) (by omega)
theorem valL_lin : ∀ (l : List UInt8) (n : Int), valL n l = n * 10 ^ l.length + valL 0 l
  | [], n => by simp [valL]
  | b :: l, n => by
    simp only [valL, List.length_cons, Int.pow_succ]
    rw [valL_lin l (n * 10 + _), valL_lin l (0 * 10 + _)]
    generalize (10 : Int) ^ l.length = p
    generalize (b.toNat : Int) = x
    grind
theorem valL_append : ∀ (l m : List UInt8) (n : Int), valL n (l ++ m) = valL (valL n l) m
  | [], m, n => rfl
  | b :: l, m, n => by simp only [List.cons_append, valL]; exact valL_append l m _
theorem numL_val : ∀ (l : List UInt8) (n : Int), Dig l → 0 ≤ n → n ≤ 4611686018427387904 → numL n l = min (valL n l) 4611686018427387904
  | [], n, _, _, h => by simp only [numL, valL]; omega
  | b :: l, n, hd, h0, h1 => by
    obtain ⟨h2, h3⟩ := dig_cons.1 hd
    have hb := kind_digit.1 h2
    simp only [numL, valL]
    by_cases h : n > (4611686018427387904 - ((b.toNat : Int) - 48)) / 10
    · rw [if_pos h]
      have := valL_ge l (n * 10 + ((b.toNat : Int) - 48)) h3 (by omega)
      have hp : (1 : Int) ≤ 10 ^ l.length := Int.pow_pos (by decide)
      have : (n * 10 + ((b.toNat : Int) - 48)) * 1 ≤ (n * 10 + ((b.toNat : Int) - 48)) * 10 ^ l.length := Int.mul_le_mul_of_nonneg_left hp (by omega)
      omega
    · rw [if_neg h]
      exact numL_val l _ h3 (by omega) (by omega)
theorem runL_dig {l : List UInt8} (h : Dig l) : runL l 3 = l.length := by
  unfold runL
  have : l.takeWhile (fun b => decide (kind (b.toNat : Nat) = 3)) = l := by
    induction l with
    | nil => rfl
    | cons b l ih =>
      obtain ⟨h1, h2⟩ := dig_cons.1 h
      rw [List.takeWhile_cons_of_pos (by simpa using h1), ih h2]
  rw [this]
theorem scan_pos {l : List UInt8} (h : Dig l) (hl : l ≠ []) : scan 0 l = .ok [⟨2, ByteArray.empty, numL 0 l, 0⟩] := by
  cases l with
  | nil => exact absurd rfl hl
  | cons c r =>
    obtain ⟨h1, h2⟩ := dig_cons.1 h
    rw [scan]
    simp only [step, h1, runL_dig h2]
    simp [scan, Except.map]
theorem scan_neg {l : List UInt8} (h : Dig l) (hl : l ≠ []) : scan 0 (45 :: l) = .ok [⟨2, ByteArray.empty, -numL 0 l, 0⟩] := by
  rw [scan]
  have : ¬ l.length = 0 := fun h' => hl (List.eq_nil_of_length_eq_zero h')
  simp only [step, runL_dig h]
  simp [scan, Except.map, kind, hl]

theorem by_strOf (n : Int) : by_ (strOf [n]) = [UInt8.ofNat n.toNat] := rfl
end Go.Proofs.Ytpmahilkkoengaa
